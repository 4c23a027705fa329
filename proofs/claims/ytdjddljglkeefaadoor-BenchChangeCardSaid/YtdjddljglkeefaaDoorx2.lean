/- A part of the proof. -/
import Derived.Test.YtdjddljglkeefaaDoorx1
set_option linter.all false
namespace Go.Lf
open Go
def W (x : Int) : Int := IntKind.i64.wrap x
inductive Sl (α : Type) where
 | nil
 | cold (xs : List α)
 | hot (xs : List α)
 | full (xs : List α)
 deriving Inhabited
namespace Sl
variable {α : Type}
def l : Sl α → List α
 | nil => []
 | cold xs | hot xs | full xs => xs
def len (x : Sl α) : Int := x.l.length
def ix (x : Sl α) (i : Int) : Option α := if 0 ≤ i then x.l[i.toNat]? else none
def cool : Sl α → Sl α
 | nil => nil
 | cold xs | hot xs | full xs => cold xs
def spent : Sl α → Sl α
 | hot xs => cold xs
 | x => x
def app (q : Nat) (x : Sl α) (ys : List α) : Option (Sl α) := match x with
 | nil => if ys = [] then some nil else if Jx ys.length q then some (hot ys) else none
 | cold _ => none
 | hot xs => if Jx (xs.length + ys.length) q then some (hot (xs ++ ys)) else none
 | full xs => if ys = [] then some (full xs) else if Jx (xs.length + ys.length) q then some (hot (xs ++ ys)) else none
def sub (x : Sl α) (lo hi : Option Int) : Option (Sl α) := match x with
 | nil => if lo.getD 0 = 0 ∧ hi.getD 0 = 0 then some nil else none
 | cold xs | hot xs | full xs => if 0 ≤ lo.getD 0 ∧ lo.getD 0 ≤ hi.getD xs.length ∧ hi.getD xs.length ≤ xs.length then some (cold ((xs.take (hi.getD xs.length).toNat).drop (lo.getD 0).toNat)) else none
def sub3 (x : Sl α) (lo : Option Int) (hi : Int) : Option (Sl α) := match x with
 | nil => if lo.getD 0 = 0 ∧ hi = 0 then some nil else none
 | cold xs | hot xs | full xs => if 0 ≤ lo.getD 0 ∧ lo.getD 0 ≤ hi ∧ hi ≤ xs.length then some (full ((xs.take hi.toNat).drop (lo.getD 0).toNat)) else none
end Sl
class zI (α : Type) where
 n : Nat
 cells : α → List DV
 enc : α → DV
 law : ∀ x, (enc x).cells = cells x
instance : zI Int := ⟨1, fun x => [.int x], .int, fun _ => rfl⟩
instance : zI Bool := ⟨1, fun x => [.bool x], .bool, fun _ => rfl⟩
instance : zI DV := ⟨1, fun x => x.cells, fun x => x, fun _ => rfl⟩
instance {α β : Type} [zI α] [zI β] : zI (α × β) := ⟨1, fun x => [.tup [zI.enc x.1, zI.enc x.2]], fun x => .tup [zI.enc x.1, zI.enc x.2], fun _ => rfl⟩
section
variable {α : Type} [zI α]
def Sl.dv : Sl α → DV
 | .nil => .nils
 | .cold xs | .hot xs | .full xs => .slice (zI.n α) (xs.map zI.enc)
def Sl.lv : Sl α → LV
 | .nil => .d .nils
 | .cold xs => .d (.slice (zI.n α) (xs.map zI.enc))
 | .hot xs => .hot (zI.n α) (xs.map zI.enc)
 | .full xs => .full (zI.n α) (xs.map zI.enc)
instance : zI (Sl α) := ⟨1, fun x => [x.dv], Sl.dv, fun x => by cases x <;> rfl⟩
end
def St.upd (s : St) (t : Nat) (x : BM) : St := { s with env := s.env.set t x }
def BM.isV : BM → Bool
 | .v _ => true
 | _ => false
def MS (k t : Nat) : BM → LV
 | .v x => x.copy
 | .box g _ => .ptr k t g 0
 | .mapo g _ _ => .mref k t g
def St.raw (s : St) (t : Nat) : Option BM := s.env.get t
def St.free (s : St) (t : Nat) : Bool := match s.raw t with
 | some x => x.isV
 | none => true
theorem JG (e : Env) (t u : Nat) (x : BM) : (e.set t x).get u = if t = u then some x else e.get u := by
 induction e with
 | nil => simp [Env.set, Env.get]
 | cons p e ih =>
  obtain ⟨v, y⟩ := p
  simp only [Env.set]
  by_cases h : v = t
  ·subst h
   simp only [if_true, Env.get]
   by_cases h2 : v = u
   ·simp [h2]
   ·simp [h2]
  ·simp only [h, if_false, Env.get]
   by_cases h2 : v = u
   ·subst h2
    simp [Ne.symm h]
   ·simp [h2, ih]
theorem Ag (s : St) (t u : Nat) (x : BM) : (s.upd t x).raw u = if t = u then some x else s.raw u := JG ..
theorem yK (low : List Fr) (ctr t : Nat) : St.raw ⟨[], low, ctr⟩ t = none := rfl
theorem mF (u : Nat) (x : BM) (e : Env) (low : List Fr) (ctr t : Nat) : St.raw ⟨(u, x) :: e, low, ctr⟩ t = if u = t then some x else St.raw ⟨e, low, ctr⟩ t := rfl
theorem cS (s : St) (t : Nat) (x : BM) : (s.upd t x).low = s.low := rfl
theorem yE (s : St) (t : Nat) (x : BM) : (s.upd t x).ctr = s.ctr := rfl
theorem J3 (s : St) (t u : Nat) (x : BM) : (s.upd t x).free u = if t = u then x.isV else s.free u := by
 simp only [St.free, Ag]
 by_cases h : t = u <;> simp [h]
theorem xh (low : List Fr) (ctr t : Nat) : St.free ⟨[], low, ctr⟩ t = true := rfl
theorem qA (u : Nat) (x : BM) (e : Env) (low : List Fr) (ctr t : Nat) : St.free ⟨(u, x) :: e, low, ctr⟩ t = if u = t then x.isV else St.free ⟨e, low, ctr⟩ t := by
 simp only [St.free, mF]
 by_cases h : u = t <;> simp [h]
theorem IG (s : St) (t : Nat) : s.slot t = match s.raw t with
 | some x => MS s.low.length t x
 | none => .d .bot := by
 simp only [St.slot, St.raw]
 cases s.env.get t with
 | none => rfl
 | some x => cases x <;> rfl
theorem xZ (s : St) (t u : Nat) (x : BM) : (s.upd t x).slot u = if t = u then MS s.low.length t x else s.slot u := by
 rw [IG, IG, Ag, cS]
 by_cases h : t = u <;> simp [h]
theorem wj (u : Nat) (x : BM) (e : Env) (low : List Fr) (ctr t : Nat) : St.slot ⟨(u, x) :: e, low, ctr⟩ t = if u = t then MS low.length u x else St.slot ⟨e, low, ctr⟩ t := by
 rw [IG, IG, mF]
 by_cases h : u = t <;> simp [h]
theorem Oa (k t : Nat) (v : DV) : MS k t (.v (.d v)) = .d v := rfl
theorem wy (k t : Nat) (v : Int) : MS k t (.v (.d (.int v))) = .d (.int v) := rfl
theorem fR (k t j u g o : Nat) : MS k t (.v (.ptr j u g o)) = .ptr j u g o := rfl
theorem aQ (k t j u g : Nat) : MS k t (.v (.mref j u g)) = .mref j u g := rfl
theorem hU (k t g : Nat) (cs : List LV) : MS k t (.box g cs) = .ptr k t g 0 := rfl
theorem gr (k t g n : Nat) (es : List (List Int × LV)) : MS k t (.mapo g n es) = .mref k t g := rfl
theorem xQ (k t f : Nat) (a b : List LV) : MS k t (.v (.fn f a b)) = .fn f a b := rfl
theorem xc {α : Type} [zI α] (k t : Nat) (x : Sl α) : (∀ xs, x ≠ .full xs) → MS k t (.v x.lv) = .d (zI.enc x) := by
 cases x <;> simp [MS, Sl.lv, LV.copy, zI.enc, Sl.dv]
def Gq (LP : BA) (C : AS) (g : Nat) (r : List AG) (s : St) (t : Option Nat) : Option LV → Option St
 | none => none
 | some v => match s.put t v with
  | some s' => evalOps LP C g r s'
  | none => none
def qc (sz : Nat) (x i : LV) : Option LV := match N9 x, F9 i with
 | some (z, xs), some i => match xs[i]? with
  | some e => if z = sz then some (.d (.fptr e.cells 0)) else none
  | none => none
 | _, _ => none
def qP (c a b : LV) : Option LV := match F3 c with
 | some true => some a
 | some false => some b
 | none => none
def lC (op : BinOp) (x y : LV) : Option LV := match RL x, RL y with
 | some a, some b => (B2 (binOp op 0 (.int .i64 a) (.int .i64 b))).map .d
 | _, _ => none
def ww (neg : Bool) (x y : LV) : Option LV := match F3 x, F3 y with
 | some a, some b => some (.d (.bool (if neg then a != b else a == b)))
 | _, _ => none
def vZ (neg : Bool) (n : Nat) (x y : LV) : Option LV := match x.aggKey, y.aggKey with
 | some a, some b => if a.length = n ∧ b.length = n then some (.d (.bool (if neg then decide (a ≠ b) else decide (a = b)))) else none
 | _, _ => none
def zz (op : UnOp) (x : LV) : Option LV := match x with
 | .d (.int a) => (B2 (Op.unary op (.int .i64 a))).map .d
 | .d (.bool a) => (B2 (Op.unary op (.bool a))).map .d
 | _ => none
def vJ (x : LV) : Option LV := (jo x).map fun n => .d (.int n)
def vMm (isMax : Bool) (xs : List LV) : Option LV := (minmax isMax xs).map fun n => .d (.int n)
def sa (i : Nat) : Option BM → Option LV
 | some (.v (.d (.tup cs))) => (cs[i]?).map .d
 | some (.v (.tup cs)) => (cs[i]?).map LV.copy
 | _ => none
def G4 : Option LV → Option (Option Nat)
 | none => some none
 | some x => (F9 x).map some
def Ix (sz : Nat) (x : LV) (lo hi mx : Option LV) : Option LV := match G4 lo, G4 hi, G4 mx with
 | some lo, some hi, some mx => P0 sz x lo hi mx
 | _, _, _ => none
def EU (zs : List DV) (ps : List (Nat × Nat × LV)) : Option LV := (CY ps (zs.map .d)).map fun cs => LV.norm (.agg cs)
def Uz (k : Option Nat) (zs : List DV) (len : Nat) (ps : List (Nat × Nat × LV)) : Option LV :=
 match CY ps ((List.replicate len zs).flatten.map .d) with
 | some cs => if cs.all LV.cellOk then match AZ cs with
  | some ds => ((List.range len).mapM fun i => A4 k (i * k.getD 1) ds).map fun xs => .hot (k.getD 1) xs
  | none => none else none
 | none => none
def We (sz n : Nat) (p i : LV) : Option LV := match F9 i with
 | some i => if i < n then JL (i * sz) p else none
 | none => none
def UA (k : Option Nat) (sz n : Nat) (x i : LV) : Option LV := match F9 i with
 | some i => if i < n then Ld k (i * sz) x else none
 | none => none
def iu (C : AS) (f : LV) (args : List LV) : Option LV := match target f, AZ args with
 | some (f, a, b), some ds => match AZ a, AZ b with
  | some a, some b => match C.call f ((a ++ ds ++ b).map .d) [] 0 with
   | some (v, _, _) => v.toD.map .d
   | none => none
  | _, _ => none
 | _, _ => none
def Zl (n : Nat) (x : LV) : Option (List LV) := match x.known with
 | some cs => if cs.length = n ∧ cs.all LV.cellOk then some cs else none
 | none => none
def HG (k : Option Nat) (off g : Nat) : Option BM → Option LV
 | some (.box g' cs) => if g' = g then part k off cs else none
 | _ => none
def Q5 (s : St) (k : Option Nat) (root : Option (Option Nat)) (p : LV) : Option LV :=
 if Au s.low.length root (some p) then match p with
  | .d (.fptr cs off) => (A4 k off cs).map .d
  | .fptr cs off => part k off cs
  | .ptr j t g off => match s.cells j t g with
   | some cs => part k off cs
   | none => none
  | _ => none
 else none
def RF (n : Nat) (ok : Bool) (z : DV) (m k : LV) : Option LV := match k.key n with
 | none => none
 | some key =>
  let out (r : Option DV) : Option LV := some (if ok then LV.norm (.tup [.d (r.getD z), .d (.bool r.isSome)]) else .d (r.getD z))
  match m with
  | .d (.fmap n' es) => if n' = n then out ((AN key es 0).map (·.2)) else none
  | .d .nilmap => out none
  | _ => none
def Gg (n off g : Nat) (xs : Option (List LV)) : Option BM → Option BM
 | some (.box g' cs) => match xs with
  | some xs => if g' = g then (if xs.length = n ∧ off + n ≤ cs.length ∧ xs.all LV.cellOk then some (.box g (setCells cs off xs)) else none) else none
  | none => none
 | _ => none
section
variable (LP : BA) (C : AS)
def jZ (g : Nat) (r : List AG) : Option St → Option St
 | some s => evalOps LP C g r s
 | none => none
def iI (g : Nat) (r : List AG) (s : St) (t : Option Nat) (x : Nat) : Option BM → Option St
 | some (.v (.hot z xs)) => Gq LP C g r (s.upd x (.v (.d (.slice z xs)))) t (some (.hot z xs))
 | _ => Gq LP C g r s t (some (s.slot x))
def gR (g : Nat) (r : List AG) (s : St) (t : Option Nat) (x : Nat) (sz q : Nat) (y : LV) : Option BM → Option St
 | some (.v (.hot z xs)) => Gq LP C g r (s.upd x (.v (.d (.slice z xs)))) t (BI sz q (.hot z xs) y)
 | _ => Gq LP C g r s t (BI sz q (s.slot x) y)
def Ip (g : Nat) (r : List AG) (s : St) (n : Nat) (p : LV) (x : Opd) : Option St := jZ LP C g r (match p with
 | .ptr j t g' off =>
  let r := s.take LP x
  match r.2.cells j t g', r.1.known with
  | some cs, some xs => if xs.length = n ∧ off + n ≤ cs.length ∧ xs.all LV.cellOk then some (r.2.setAt j t (.box g' (setCells cs off xs))) else none
  | _, _ => none
 | _ => none)
def TE (g : Nat) (o : AG) (r : List AG) (s : St) (w : Bool) : LV → Option St
 | .d (.bool b) => if b = w then evalOps LP C g (o :: r) s else Gq LP C (g + 1) r s o.dst (some (.d .undef))
 | .d .undef => Gq LP C (g + 1) r s o.dst (some (.d .undef))
 | _ => none
variable {LP C} (g : Nat) (r : List AG) (s : St) (t : Option Nat) (ro : Option (Option Nat))
theorem gw (u : Nat) (v : LV) (h : s.free u = true) : Gq LP C g r s (some u) (some v) = evalOps LP C g r (s.upd u (.v v)) := by
 simp only [Gq, St.put, St.free, St.raw, St.upd] at *
 cases hx : s.env.get u with
 | none => rfl
 | some x => rw [hx] at h; cases x <;> simp_all [BM.isV]
theorem iD (v : LV) : Gq LP C g r s none (some v) = evalOps LP C g r s := rfl
theorem ua : evalOps LP C g [] s = some s := rfl
theorem dy : jZ LP C g r (some s) = evalOps LP C g r s := rfl
theorem BL {o : zl} {v : Option LV} (hm : o.addr = none) (h : evalOp LP C g t o s = match v with | some v => s.put t v | none => none) :
  evalOps LP C g (⟨t, o, none, ro⟩ :: r) s = Gq LP C (g + 1) r s t v := by
 have hr : Au s.low.length ro none = true := by cases ro <;> rfl
 simp only [evalOps, An, hm, Option.map_none, hr, if_true, h]
 cases v with
 | none => rfl
 | some v => rfl
theorem kV (o : zl) (b : Nat) (w : Bool) : evalOps LP C g (⟨t, o, some (b, w), ro⟩ :: r) s = TE LP C g ⟨t, o, none, ro⟩ r s w (s.slot b) := by
 simp only [evalOps, An, TE]
 split <;> rename_i h <;> split at h <;> simp_all [Gq]
 all_goals (try split at h <;> simp_all)
 all_goals (try (split <;> simp_all))
theorem lH (o : AG) : TE LP C g o r s true (.d (.bool true)) = evalOps LP C g (o :: r) s := rfl
theorem lJ (o : AG) : TE LP C g o r s false (.d (.bool false)) = evalOps LP C g (o :: r) s := rfl
theorem mE (o : AG) : TE LP C g o r s true (.d (.bool false)) = Gq LP C (g + 1) r s o.dst (some (.d .undef)) := rfl
theorem kc (o : AG) : TE LP C g o r s false (.d (.bool true)) = Gq LP C (g + 1) r s o.dst (some (.d .undef)) := rfl
theorem mg (o : AG) (w : Bool) : TE LP C g o r s w (.d .undef) = Gq LP C (g + 1) r s o.dst (some (.d .undef)) := by cases w <;> rfl
theorem rA (x : Opd) : evalOps LP C g (⟨t, .move x false, none, ro⟩ :: r) s = Gq LP C (g + 1) r s t (some (s.val LP x)) := BL (v := some (s.val LP x)) _ _ _ _ _ rfl rfl
theorem pP (c a b : Opd) : evalOps LP C g (⟨t, .pick c a b, none, ro⟩ :: r) s = Gq LP C (g + 1) r s t (qP (s.val LP c) (s.val LP a) (s.val LP b)) :=
 BL (v := qP (s.val LP c) (s.val LP a) (s.val LP b)) _ _ _ _ _ rfl (by simp only [evalOp, qP]; cases F3 (s.val LP c) with | none => rfl | some b => cases b <;> rfl)
theorem uU (op : BinOp) (x y : Opd) : evalOps LP C g (⟨t, .bin op x y, none, ro⟩ :: r) s = Gq LP C (g + 1) r s t (lC op (s.val LP x) (s.val LP y)) :=
 BL (v := lC op (s.val LP x) (s.val LP y)) _ _ _ _ _ rfl (by
  simp only [evalOp, lC]; cases RL (s.val LP x) with
  | none => rfl
  | some a => cases RL (s.val LP y) with
   | none => rfl
   | some b => simp only; cases B2 (binOp op 0 (.int .i64 a) (.int .i64 b)) <;> rfl)
theorem tZ (neg : Bool) (x y : Opd) : evalOps LP C g (⟨t, .eqb neg x y, none, ro⟩ :: r) s = Gq LP C (g + 1) r s t (ww neg (s.val LP x) (s.val LP y)) :=
 BL (v := ww neg (s.val LP x) (s.val LP y)) _ _ _ _ _ rfl (by
  simp only [evalOp, ww]; cases F3 (s.val LP x) with
  | none => rfl
  | some a => cases F3 (s.val LP y) <;> rfl)
theorem uD (neg : Bool) (n : Nat) (x y : Opd) : evalOps LP C g (⟨t, .eqa neg n x y, none, ro⟩ :: r) s = Gq LP C (g + 1) r s t (vZ neg n (s.val LP x) (s.val LP y)) :=
 BL (v := vZ neg n (s.val LP x) (s.val LP y)) _ _ _ _ _ rfl (by
  simp only [evalOp, vZ]; cases (s.val LP x).aggKey with
  | none => rfl
  | some a => cases (s.val LP y).aggKey with
   | none => rfl
   | some b => simp only; split <;> rfl)
theorem wK (op : UnOp) (x : Opd) : evalOps LP C g (⟨t, .un op x, none, ro⟩ :: r) s = Gq LP C (g + 1) r s t (zz op (s.val LP x)) :=
 BL (v := zz op (s.val LP x)) _ _ _ _ _ rfl (by
  simp only [evalOp, zz]
  cases s.val LP x with
  | d v => cases v with
   | int a => simp only; cases B2 (Op.unary op (.int .i64 a)) <;> rfl
   | bool a => simp only; cases B2 (Op.unary op (.bool a)) <;> rfl
   | _ => rfl
  | _ => rfl)
theorem tf (x : Opd) : evalOps LP C g (⟨t, .len x, none, ro⟩ :: r) s = Gq LP C (g + 1) r s t (vJ (s.val LP x)) :=
 BL (v := vJ (s.val LP x)) _ _ _ _ _ rfl (by simp only [evalOp, vJ]; cases jo (s.val LP x) <;> rfl)
theorem xA (b : Bool) (xs : List Opd) : evalOps LP C g (⟨t, .minmax b xs, none, ro⟩ :: r) s = Gq LP C (g + 1) r s t (vMm b (xs.map (s.val LP))) :=
 BL (v := vMm b (xs.map (s.val LP))) _ _ _ _ _ rfl (by simp only [evalOp, vMm]; cases minmax b (xs.map (s.val LP)) <;> rfl)
theorem uK (i x : Nat) : evalOps LP C g (⟨t, .extract i (.tmp x) false, none, ro⟩ :: r) s = Gq LP C (g + 1) r s t (sa i (s.raw x)) :=
 BL (v := sa i (s.raw x)) _ _ _ _ _ rfl (by
  simp only [evalOp, St.raw]
  cases s.env.get x with
  | none => rfl
  | some y => cases y with
   | v y => cases y with
    | d y => cases y with
     | tup cs => simp only [sa]; cases cs[i]? <;> rfl
     | _ => rfl
    | tup cs => simp only [sa]; cases cs[i]? <;> rfl
    | _ => rfl
   | _ => rfl)
theorem ki (sz : Nat) (x : Opd) (lo hi mx : Option Opd) : evalOps LP C g (⟨t, .slice sz x lo hi mx, none, ro⟩ :: r) s = Gq LP C (g + 1) r s t (Ix sz (s.val LP x) (lo.map (s.val LP)) (hi.map (s.val LP)) (mx.map (s.val LP))) :=
 BL (v := Ix sz (s.val LP x) (lo.map (s.val LP)) (hi.map (s.val LP)) (mx.map (s.val LP))) _ _ _ _ _ rfl (by
  have e : ∀ o : Option Opd, optNat (s.val LP) o = G4 (o.map (s.val LP)) := fun o => by cases o <;> rfl
  simp only [evalOp, Ix, e]
  cases G4 (lo.map (s.val LP)) with
  | none => rfl
  | some a => cases G4 (hi.map (s.val LP)) with
   | none => rfl
   | some b => cases G4 (mx.map (s.val LP)) with
    | none => rfl
    | some c => simp only; cases P0 sz (s.val LP x) a b c <;> rfl)
theorem mW (zs : List DV) (ps : List (Nat × Nat × Opd)) : evalOps LP C g (⟨t, .build zs ps, none, ro⟩ :: r) s = Gq LP C (g + 1) r s t (EU zs (ps.map fun p => (p.1, p.2.1, s.val LP p.2.2))) :=
 BL (v := EU zs (ps.map fun p => (p.1, p.2.1, s.val LP p.2.2))) _ _ _ _ _ rfl (by
  simp only [evalOp, EU]; cases CY (ps.map fun p => (p.1, p.2.1, s.val LP p.2.2)) (zs.map .d) <;> rfl)
theorem uV (k : Option Nat) (zs : List DV) (len : Nat) (ps : List (Nat × Nat × Opd)) : evalOps LP C g (⟨t, .lit k zs len ps, none, ro⟩ :: r) s = Gq LP C (g + 1) r s t (Uz k zs len (ps.map fun p => (p.1, p.2.1, s.val LP p.2.2))) :=
 BL (v := Uz k zs len (ps.map fun p => (p.1, p.2.1, s.val LP p.2.2))) _ _ _ _ _ rfl (by
  simp only [evalOp, Uz]
  cases CY (ps.map fun p => (p.1, p.2.1, s.val LP p.2.2)) ((List.replicate len zs).flatten.map .d) with
  | none => rfl
  | some cs =>
   simp only
   split
   ·cases AZ cs with
    | none => rfl
    | some ds => simp only; cases (List.range len).mapM fun i => A4 k (i * k.getD 1) ds <;> rfl
   ·rfl)
theorem gU (sz : Nat) (x i : Opd) : evalOps LP C g (⟨t, .iaddrS sz x i, none, ro⟩ :: r) s = Gq LP C (g + 1) r s t (qc sz (s.val LP x) (s.val LP i)) :=
 BL (v := qc sz (s.val LP x) (s.val LP i)) _ _ _ _ _ rfl (by
  simp only [evalOp, qc]
  cases N9 (s.val LP x) with
  | none => rfl
  | some p => cases F9 (s.val LP i) with
   | none => rfl
   | some k =>
    simp only
    cases p.2[k]? with
    | none => rfl
    | some e => simp only; split <;> rfl)
theorem dV (sz n : Nat) (p i : Opd) : evalOps LP C g (⟨t, .iaddrA sz n p i, none, ro⟩ :: r) s = Gq LP C (g + 1) r s t (We sz n (s.val LP p) (s.val LP i)) :=
 BL (v := We sz n (s.val LP p) (s.val LP i)) _ _ _ _ _ rfl (by
  simp only [evalOp, We]
  cases F9 (s.val LP i) with
  | none => rfl
  | some k => simp only; split <;> rfl)
theorem lV (k : Option Nat) (sz n : Nat) (x i : Opd) : evalOps LP C g (⟨t, .index k sz n x i, none, ro⟩ :: r) s = Gq LP C (g + 1) r s t (UA k sz n (s.val LP x) (s.val LP i)) :=
 BL (v := UA k sz n (s.val LP x) (s.val LP i)) _ _ _ _ _ rfl (by
  simp only [evalOp, UA]
  cases F9 (s.val LP i) with
  | none => rfl
  | some m => simp only; split <;> rfl)
theorem kZ (off : Nat) (p : Opd) : evalOps LP C g (⟨t, .faddr off p, none, ro⟩ :: r) s = Gq LP C (g + 1) r s t (JL off (s.val LP p)) :=
 BL (v := JL off (s.val LP p)) _ _ _ _ _ rfl (by simp only [evalOp]; cases JL off (s.val LP p) <;> rfl)
theorem kY (k : Option Nat) (off : Nat) (x : Opd) : evalOps LP C g (⟨t, .field k off x, none, ro⟩ :: r) s = Gq LP C (g + 1) r s t (Ld k off (s.val LP x)) :=
 BL (v := Ld k off (s.val LP x)) _ _ _ _ _ rfl (by simp only [evalOp]; cases Ld k off (s.val LP x) <;> rfl)
theorem oz (f : Nat) (a b : List Opd) : evalOps LP C g (⟨t, .mkfn f a b, none, ro⟩ :: r) s = Gq LP C (g + 1) r s t (some (LV.norm (.fn f (a.map (s.val LP)) (b.map (s.val LP))))) :=
 BL (v := some (LV.norm (.fn f (a.map (s.val LP)) (b.map (s.val LP))))) _ _ _ _ _ rfl rfl
theorem rM (f : Opd) (args : List Opd) : evalOps LP C g (⟨t, .call f args none, none, ro⟩ :: r) s = Gq LP C (g + 1) r s t (iu C (s.val LP f) (args.map (s.val LP))) :=
 BL (v := iu C (s.val LP f) (args.map (s.val LP))) _ _ _ _ _ rfl (by
  simp only [evalOp, iu]
  split
  ·rename_i f' a b ds h1 h2
   simp only [h1, h2]
   cases AZ a with
   | none => rfl
   | some a => cases AZ b with
    | none => rfl
    | some b =>
     simp only
     cases C.call f' (List.map LV.d (a ++ ds ++ b)) [] 0 with
     | none => rfl
     | some p => obtain ⟨v, x, y⟩ := p; simp only; cases v.toD <;> rfl
  ·rename_i h
   cases h1 : target (s.val LP f) with
   | none => rfl
   | some p => cases h2 : AZ (args.map (s.val LP)) with
    | none => rfl
    | some ds => exact absurd h2 (h _ _ _ _ h1))
theorem ll (u : Nat) (zs : List DV) : evalOps LP C g (⟨some u, .alloc zs, none, ro⟩ :: r) s = evalOps LP C (g + 1) r (s.upd u (.box g (zs.map .d))) := by
 have hr : Au s.low.length ro none = true := by cases ro <;> rfl
 simp only [evalOps, An, zl.addr, Option.map_none, hr, if_true, evalOp, St.upd]
theorem uO (u n : Nat) (x : Opd) : evalOps LP C g (⟨some u, .box n x, none, ro⟩ :: r) s = jZ LP C (g + 1) r ((Zl n (s.val LP x)).map fun cs => s.upd u (.box g cs)) := by
 have hr : Au s.low.length ro none = true := by cases ro <;> rfl
 simp only [evalOps, An, zl.addr, Option.map_none, hr, if_true, evalOp, Zl]
 cases (s.val LP x).known with
 | none => rfl
 | some cs =>
  simp only
  by_cases h : cs.length = n ∧ cs.all LV.cellOk = true
  ·simp only [if_pos h]; rfl
  ·simp only [if_neg h]; rfl
theorem md (u n : Nat) : evalOps LP C g (⟨some u, .mkmap n, none, ro⟩ :: r) s = evalOps LP C (g + 1) r (s.upd u (.mapo g n [])) := by
 have hr : Au s.low.length ro none = true := by cases ro <;> rfl
 simp only [evalOps, An, zl.addr, Option.map_none, hr, if_true, evalOp, St.upd]
theorem rY (k : Option Nat) (p : Opd) : evalOps LP C g (⟨t, .load k p false, none, ro⟩ :: r) s = Gq LP C (g + 1) r s t (Q5 s k ro (s.val LP p)) := by
 have e : An LP C g ⟨t, .load k p false, none, ro⟩ s = if Au s.low.length ro (some (s.val LP p)) = true then evalOp LP C g t (.load k p false) s else none := rfl
 simp only [evalOps, e, Q5]
 by_cases h : Au s.low.length ro (some (s.val LP p)) = true
 case neg => rw [if_neg h, if_neg h]; rfl
 case pos =>
  rw [if_pos h, if_pos h]
  simp only [evalOp]
  cases s.val LP p with
  | d v => cases v with
   | fptr cs off => simp only; cases A4 k off cs <;> rfl
   | _ => rfl
  | fptr cs off => simp only; cases part k off cs <;> rfl
  | ptr j t' g' off => simp only; cases s.cells j t' g' with
   | none => rfl
   | some cs => simp only; cases part k off cs <;> rfl
  | _ => rfl
theorem mU (n : Nat) (p x : Opd) (h : Au s.low.length ro (some (s.val LP p)) = true) : evalOps LP C g (⟨t, .store n p x, none, ro⟩ :: r) s = Ip LP C (g + 1) r s n (s.val LP p) x := by
 simp only [evalOps, An, zl.addr, Option.map_some, h, if_true, evalOp, Ip]
 cases s.val LP p with
 | ptr j t' g' off =>
  simp only
  cases (s.take LP x).2.cells j t' g' with
  | none => rfl
  | some cs => cases (s.take LP x).1.known with
   | none => rfl
   | some xs =>
    simp only
    by_cases hc : xs.length = n ∧ off + n ≤ cs.length ∧ xs.all LV.cellOk = true
    ·simp only [if_pos hc, jZ]
    ·simp only [if_neg hc, jZ]
 | _ => rfl
def sM (s : St) (n : Nat) (ok : Bool) (z : DV) (ro : Option (Option Nat)) (m k : LV) : Option LV :=
 if Au s.low.length ro (some m) then match m with
  | .mref j t g' => match k.key n with
   | none => none
   | some key => match s.entries j t g' n with
    | some es => some (if ok then LV.norm (.tup [((AN key es 0).map fun p => p.2.copy).getD (.d z), .d (.bool (AN key es 0).isSome)]) else ((AN key es 0).map fun p => p.2.copy).getD (.d z))
    | none => none
  | m => RF n ok z m k
 else none
theorem fM (n : Nat) (m k : Opd) (ok : Bool) (z : DV) : evalOps LP C g (⟨t, .lookup n m k ok z, none, ro⟩ :: r) s = Gq LP C (g + 1) r s t (sM s n ok z ro (s.val LP m) (s.val LP k)) := by
 have e : An LP C g ⟨t, .lookup n m k ok z, none, ro⟩ s = if Au s.low.length ro (some (s.val LP m)) = true then evalOp LP C g t (.lookup n m k ok z) s else none := rfl
 simp only [evalOps, e, sM]
 by_cases h : Au s.low.length ro (some (s.val LP m)) = true
 case neg => rw [if_neg h, if_neg h]; rfl
 case pos =>
  rw [if_pos h, if_pos h]
  simp only [evalOp]
  cases hk : (s.val LP k).key n with
  | none => cases s.val LP m <;> simp only [RF, hk] <;> rfl
  | some key => cases hm : s.val LP m with
   | mref j t' g' =>
    simp only
    cases s.entries j t' g' n with
    | none => rfl
    | some es => simp only; cases AN key es 0 <;> cases ok <;> rfl
   | d v => cases v with
    | fmap n' es =>
     simp only [RF, hk]
     by_cases hn : n' = n
     ·simp only [if_pos hn]; cases AN key es 0 <;> cases ok <;> rfl
     ·simp only [if_neg hn]; rfl
    | nilmap => simp only [RF, hk]; cases ok <;> rfl
    | _ => simp only [RF, hk]; rfl
   | _ => simp only [RF, hk]; rfl
theorem lu (x : Nat) : evalOps LP C g (⟨t, .move (.tmp x) true, none, ro⟩ :: r) s = iI LP C (g + 1) r s t x (s.raw x) := by
 have hr : Au s.low.length ro none = true := by cases ro <;> rfl
 simp only [evalOps, An, zl.addr, Option.map_none, hr, if_true, evalOp, St.take, iI, St.raw]
 cases s.env.get x with
 | none => rfl
 | some y => cases y with
  | v y => cases y <;> rfl
  | _ => rfl
theorem nc (x : Nat) (z : Nat) (xs : List DV) (y : Opd) (h : s.env.get x = some (.v (.hot z xs))) : ({ s with env := s.env.set x (.v (.d (.slice z xs))) } : St).val LP y = s.val LP y := by
 cases y with
 | tmp u =>
  simp only [St.val, St.slot, JG]
  by_cases hu : x = u
  ·subst hu; simp [h, LV.copy]
  ·simp only [hu, if_false]
 | con v => rfl
 | glob v => rfl
theorem ff (sz q x : Nat) (y : Opd) : evalOps LP C g (⟨t, .append sz q (.tmp x) y, none, ro⟩ :: r) s = gR LP C (g + 1) r s t x sz q (s.val LP y) (s.raw x) := by
 have hr : Au s.low.length ro none = true := by cases ro <;> rfl
 simp only [evalOps, An, zl.addr, Option.map_none, hr, if_true, evalOp, St.take, gR, St.raw]
 cases he : s.env.get x with
 | none => simp only; cases BI sz q (s.slot x) (s.val LP y) <;> rfl
 | some z => cases z with
  | v z => cases z with
   | hot z xs => simp only [nc s x z xs y he]; cases BI sz q (.hot z xs) (s.val LP y) <;> rfl
   | _ => simp only; cases BI sz q (s.slot x) (s.val LP y) <;> rfl
  | _ => simp only; cases BI sz q (s.slot x) (s.val LP y) <;> rfl
end
section
variable (LP : BA)
open Classical in
noncomputable def om : AS where
 call f args low ctr := if h : ∃ r, ∃ n, (Gt LP n).call f args low ctr = some r then some h.choose else none
 round j g args low ctr := if h : ∃ r, ∃ n, (Gt LP n).round j g args low ctr = some r then some h.choose else none
variable {LP}
theorem QJ {f : Nat} {args : List LV} {low : List Fr} {ctr : Nat} {r : LV × List Fr × Nat} : (om LP).call f args low ctr = some r ↔ ∃ n, (Gt LP n).call f args low ctr = some r := by
 constructor
 ·intro h
  simp only [om] at h
  split at h
  ·rename_i h'
   simp only [Option.some.injEq] at h
   exact h ▸ h'.choose_spec
  ·simp at h
 ·intro h
  have h' : ∃ r, ∃ n, (Gt LP n).call f args low ctr = some r := ⟨r, h⟩
  simp only [om, dif_pos h', Option.some.injEq]
  obtain ⟨n, hn⟩ := h'.choose_spec
  obtain ⟨m, hm⟩ := h
  have h1 := (E7 LP (Nat.le_max_left n m)).1 _ _ _ _ _ hn
  have h2 := (E7 LP (Nat.le_max_right n m)).1 _ _ _ _ _ hm
  rw [h1] at h2
  exact Option.some.inj h2
theorem mB {j g : Nat} {args : List LV} {low : List Fr} {ctr : Nat} {r : Bool × List Fr × Nat} : (om LP).round j g args low ctr = some r ↔ ∃ n, (Gt LP n).round j g args low ctr = some r := by
 constructor
 ·intro h
  simp only [om] at h
  split at h
  ·rename_i h'
   simp only [Option.some.injEq] at h
   exact h ▸ h'.choose_spec
  ·simp at h
 ·intro h
  have h' : ∃ r, ∃ n, (Gt LP n).round j g args low ctr = some r := ⟨r, h⟩
  simp only [om, dif_pos h', Option.some.injEq]
  obtain ⟨n, hn⟩ := h'.choose_spec
  obtain ⟨m, hm⟩ := h
  have h1 := (E7 LP (Nat.le_max_left n m)).2 _ _ _ _ _ _ hn
  have h2 := (E7 LP (Nat.le_max_right n m)).2 _ _ _ _ _ _ hm
  rw [h1] at h2
  exact Option.some.inj h2
theorem gy {g : Nat} {dst : Option Nat} {o : zl} {s s' : St} (h : evalOp LP (om LP) g dst o s = some s') : ∃ n, evalOp LP (Gt LP n) g dst o s = some s' := by
 cases o with
 | call f args vis =>
  cases vis with
  | none =>
   simp only [evalOp] at h
   split at h
   ·rename_i f' a b ds h1 h2
    split at h
    ·rename_i a' b' h3 h4
     split at h
     ·rename_i v x y h5
      obtain ⟨n, hn⟩ := QJ.mp h5
      refine ⟨n, ?_⟩
      simp only [evalOp, h1, h2, h3, h4, hn]
      exact h
     ·simp at h
    ·simp at h
   ·simp at h
  | some vis =>
   have key : ∀ fv, s.val LP f = fv → (∀ j g', fv ≠ .yield j g') → ∃ n, evalOp LP (Gt LP n) g dst (.call f args (some vis)) s = some s' := by
    intro fv hf hy
    have e : ∀ C, evalOp LP C g dst (.call f args (some vis)) s = match target fv with
      | some (f, a, b) => match C.call f (a ++ args.map (s.val LP) ++ b) (s.low ++ [{ env := s.env.keep vis, loop := none }]) s.ctr with
       | some (v, low', c') => match low'.getLast? with
        | some fr => if low'.length = s.low.length + 1 then ({ env := Env.merge vis s.env fr.env, low := low'.dropLast, ctr := c' } : St).put dst v else none
        | none => none
       | none => none
      | none => none := by
     intro C
     simp only [evalOp, hf]
     cases fv with
     | yield j g' => exact absurd rfl (hy j g')
     | _ => rfl
    rw [e] at h
    split at h
    ·rename_i f' a b ht
     split at h
     ·rename_i v low' c' h5
      obtain ⟨n, hn⟩ := QJ.mp h5
      refine ⟨n, ?_⟩
      rw [e]
      simp only [ht, hn]
      exact h
     ·simp at h
    ·simp at h
   cases hf : s.val LP f with
   | yield j g' =>
    simp only [evalOp, hf] at h
    split at h
    ·rename_i b low' c' h5
     obtain ⟨n, hn⟩ := mB.mp h5
     refine ⟨n, ?_⟩
     simp only [evalOp, hf, hn]
     exact h
    ·simp at h
   | _ => exact key _ hf (by intro j g' e; cases e)
 | move x t => exact ⟨0, by cases t <;> exact h⟩
 | _ => exact ⟨0, h⟩
theorem kG {g : Nat} {o : AG} {s s' : St} (h : An LP (om LP) g o s = some s') : ∃ n, An LP (Gt LP n) g o s = some s' := by
 obtain ⟨dst, op, guard, root⟩ := o
 cases guard with
 | none =>
  simp only [An] at h ⊢
  by_cases hr : Au s.low.length root (op.addr.map (s.val LP)) = true
  ·simp only [hr, if_true] at h ⊢
   exact gy h
  ·simp only [hr] at h
   simp at h
 | some p =>
  obtain ⟨t, w⟩ := p
  simp only [An] at h ⊢
  split at h
  ·rename_i b hb
   by_cases hw : b = w
   ·simp only [hw, if_true] at h ⊢
    by_cases hr : Au s.low.length root (op.addr.map (s.val LP)) = true
    ·simp only [hr, if_true] at h ⊢
     exact gy h
    ·simp only [hr] at h
     simp at h
   ·simp only [hw, if_false] at h ⊢
    exact ⟨0, h⟩
  ·exact ⟨0, h⟩
  ·simp at h
theorem Ou : ∀ {ops : List AG} {g : Nat} {s s' : St}, evalOps LP (om LP) g ops s = some s' → Io LP g ops s s'
 | [], g, s, s', h => by
  simp only [evalOps, Option.some.injEq] at h
  subst h; exact .nil
 | o :: r, g, s, s', h => by
  simp only [evalOps] at h
  split at h
  ·rename_i s1 h1
   exact .cons (kG h1) (Ou h)
  ·simp at h
end
inductive iW where
 | seq (c : Cd)
 | block (id : Nat)
 | loop (c : Cd)
section
variable (LP : BA)
def Eh : List iW → zR → St → (zR → St → Prop) → Prop
 | [], j, s, J => J j s
 | .seq c :: ks, j, s, J => if j = .normal then ∃ j' s', Ae LP c s j' s' ∧ Eh ks j' s' J else Eh ks j s J
 | .block id :: ks, j, s, J => if j = .exit id then Eh ks .normal s J else Eh ks j s J
 | .loop c :: ks, j, s, J => if j = .normal then ∃ j' s', Ae LP (.loop c) s j' s' ∧ Eh ks j' s' J else Eh ks j s J
def Run (ks : List iW) (c : Cd) (s : St) (J : zR → St → Prop) : Prop := ∃ j s', Ae LP c s j s' ∧ Eh LP ks j s' J
variable {LP} {ks : List iW} {s s' : St} {J : zR → St → Prop} {a b c : Cd}
theorem Eh.nil {j : zR} (h : J j s) : Eh LP [] j s J := h
theorem Eh.seq (h : Run LP ks c s J) : Eh LP (.seq c :: ks) .normal s J := by simp only [Eh, if_true]; exact h
theorem bn {i : Nat} (h : Eh LP ks (.exit i) s J) : Eh LP (.seq c :: ks) (.exit i) s J := by simp only [Eh, reduceCtorEq, if_false]; exact h
theorem eB (h : Eh LP ks .ret s J) : Eh LP (.seq c :: ks) .ret s J := by simp only [Eh, reduceCtorEq, if_false]; exact h
theorem Eh.loop (h : Run LP ks (.loop c) s J) : Eh LP (.loop c :: ks) .normal s J := by simp only [Eh, if_true]; exact h
theorem Y9 {i : Nat} (h : Eh LP ks (.exit i) s J) : Eh LP (.loop c :: ks) (.exit i) s J := by simp only [Eh, reduceCtorEq, if_false]; exact h
theorem bv (h : Eh LP ks .ret s J) : Eh LP (.loop c :: ks) .ret s J := by simp only [Eh, reduceCtorEq, if_false]; exact h
theorem Eh.block {id : Nat} (h : Eh LP ks .normal s J) : Eh LP (.block id :: ks) .normal s J := by simp only [Eh, reduceCtorEq, if_false]; exact h
theorem Eh.block_exit {id : Nat} (h : Eh LP ks .normal s J) : Eh LP (.block id :: ks) (.exit id) s J := by simp only [Eh, if_true]; exact h
theorem Eh.block_pass {id i : Nat} (hi : i ≠ id) (h : Eh LP ks (.exit i) s J) : Eh LP (.block id :: ks) (.exit i) s J := by simp only [Eh, zR.exit.injEq, hi, if_false]; exact h
theorem Eh.block_ret {id : Nat} (h : Eh LP ks .ret s J) : Eh LP (.block id :: ks) .ret s J := by simp only [Eh, reduceCtorEq, if_false]; exact h
theorem Run.skip (h : Eh LP ks .normal s J) : Run LP ks .skip s J := ⟨_, _, .skip, h⟩
theorem Run.exit {i : Nat} (h : Eh LP ks (.exit i) s J) : Run LP ks (.exit i) s J := ⟨_, _, .exit, h⟩
theorem Run.ret (h : Eh LP ks .ret s J) : Run LP ks .ret s J := ⟨_, _, .ret, h⟩
theorem Run.seq (h : Run LP (.seq b :: ks) a s J) : Run LP ks (.seq a b) s J := by
 obtain ⟨j, s', h1, h2⟩ := h
 by_cases hj : j = .normal
 ·subst hj
  simp only [Eh, if_true] at h2
  obtain ⟨j', s'', h3, h4⟩ := h2
  exact ⟨j', s'', .seq h1 h3, h4⟩
 ·simp only [Eh, hj, if_false] at h2
  exact ⟨j, s', .seq_jump h1 hj, h2⟩
theorem Run.block {id : Nat} (h : Run LP (.block id :: ks) c s J) : Run LP ks (.block id c) s J := by
 obtain ⟨j, s', h1, h2⟩ := h
 cases j with
 | normal => simp only [Eh, reduceCtorEq, if_false] at h2; exact ⟨_, _, .block h1, h2⟩
 | ret => simp only [Eh, reduceCtorEq, if_false] at h2; exact ⟨_, _, .block_ret h1, h2⟩
 | exit i =>
  by_cases hi : i = id
  ·subst hi; simp only [Eh, if_true] at h2; exact ⟨_, _, .block_exit h1, h2⟩
  ·simp only [Eh, zR.exit.injEq, hi, if_false] at h2; exact ⟨_, _, .block_pass h1 hi, h2⟩
theorem Run.scope (h : Run LP ks c s J) : Run LP ks (.scope c) s J := by
 obtain ⟨j, s', h1, h2⟩ := h
 exact ⟨j, s', .scope h1, h2⟩
theorem Run.cond {x : Opd} {v : Bool} (hv : s.val LP x = .d (.bool v)) (h : Run LP ks (if v = true then a else b) s J) : Run LP ks (.cond x a b) s J := by
 obtain ⟨j, s', h1, h2⟩ := h
 exact ⟨j, s', .cond (c := v) (by rw [hv]; rfl) h1, h2⟩
theorem Run.condT {x : Opd} (hv : s.val LP x = .d (.bool true)) (h : Run LP ks a s J) : Run LP ks (.cond x a b) s J := Run.cond hv h
theorem Run.condF {x : Opd} (hv : s.val LP x = .d (.bool false)) (h : Run LP ks b s J) : Run LP ks (.cond x a b) s J := Run.cond hv h
def tR (keep : List Nat) : Option St → Option (Env × List Fr)
 | some s => some (s.env.keep keep, s.low)
 | none => none
theorem Run.ops {ops : List AG} {keep : List Nat} {e e' : Env} {low low' : List Fr} {ctr : Nat} (h : tR keep (evalOps LP (om LP) ctr ops ⟨e, low, ctr + ops.length⟩) = some (e', low'))
  (h' : ∀ ctr', Eh LP ks .normal ⟨e', low', ctr'⟩ J) : Run LP ks (.ops ops keep) ⟨e, low, ctr⟩ J := by
 cases he : evalOps LP (om LP) ctr ops ⟨e, low, ctr + ops.length⟩ with
 | none => rw [he] at h; simp [tR] at h
 | some s' =>
  rw [he] at h
  simp only [tR, Option.some.injEq, Prod.mk.injEq] at h
  obtain ⟨rfl, rfl⟩ := h
  exact ⟨.normal, { s' with env := s'.env.keep keep }, .ops (Ou he), h' s'.ctr⟩
theorem qz (h : Run LP (.loop c :: ks) c s J) : Run LP ks (.loop c) s J := by
 obtain ⟨j, s', h1, h2⟩ := h
 by_cases hj : j = .normal
 ·subst hj
  simp only [Eh, if_true] at h2
  obtain ⟨j', s'', h3, h4⟩ := h2
  exact ⟨j', s'', .loop h1 h3, h4⟩
 ·simp only [Eh, hj, if_false] at h2
  exact ⟨j, s', .loop_jump h1 hj, h2⟩
end
def turns {σ ρ : Type} (f : σ → Option (σ ⊕ ρ)) : Nat → σ → Option ρ
 | 0, _ => none
 | n + 1, x => match f x with
  | none => none
  | some (.inr r) => some r
  | some (.inl x') => turns f n x'
theorem cf {σ ρ : Type} {f : σ → Option (σ ⊕ ρ)} : ∀ {n m : Nat} {x : σ} {r : ρ}, n ≤ m → turns f n x = some r → turns f m x = some r
 | 0, _, _, _, _, h => by simp [turns] at h
 | n + 1, 0, _, _, hm, _ => by omega
 | n + 1, m + 1, x, r, hm, h => by
  simp only [turns] at h ⊢
  split at h
  ·simp at h
  ·exact h
  ·exact cf (by omega) h
open Classical in
noncomputable def Loop {σ ρ : Type} (f : σ → Option (σ ⊕ ρ)) (x : σ) : Option ρ := if h : ∃ r, ∃ n, turns f n x = some r then some h.choose else none
theorem RB {σ ρ : Type} {f : σ → Option (σ ⊕ ρ)} {x : σ} {r : ρ} : Loop f x = some r ↔ ∃ n, turns f n x = some r := by
 constructor
 ·intro h
  simp only [Loop] at h
  split at h
  ·rename_i h'
   simp only [Option.some.injEq] at h
   exact h ▸ h'.choose_spec
  ·simp at h
 ·intro h
  have h' : ∃ r, ∃ n, turns f n x = some r := ⟨r, h⟩
  simp only [Loop, dif_pos h', Option.some.injEq]
  obtain ⟨n, hn⟩ := h'.choose_spec
  obtain ⟨m, hm⟩ := h
  have h1 := cf (Nat.le_max_left n m) hn
  have h2 := cf (Nat.le_max_right n m) hm
  rw [h1] at h2
  exact Option.some.inj h2
theorem Loop.step {σ ρ : Type} {f : σ → Option (σ ⊕ ρ)} {x x' : σ} (h : f x = some (.inl x')) : Loop f x = Loop f x' := by
 apply Option.ext
 intro r
 rw [RB, RB]
 constructor
 ·rintro ⟨n, hn⟩
  cases n with
  | zero => simp [turns] at hn
  | succ n => simp only [turns, h] at hn; exact ⟨n, hn⟩
 ·rintro ⟨n, hn⟩
  exact ⟨n + 1, by simp only [turns, h]; exact hn⟩
theorem Loop.done {σ ρ : Type} {f : σ → Option (σ ⊕ ρ)} {x : σ} {r : ρ} (h : f x = some (.inr r)) : Loop f x = some r :=
 RB.mpr ⟨1, by simp only [turns, h]⟩
theorem Run.loop {LP : BA} {ks : List iW} {c : Cd} {σ ρ : Type} {f : σ → Option (σ ⊕ ρ)} {E : σ → St → Prop} {J : zR → St → Prop} {r : ρ}
  (hs : ∀ x s out, E x s → f x = some out → (∀ x', out = .inl x' → ∀ s', E x' s' → Run LP ks (.loop c) s' J) → (∀ r', out = .inr r' → r' = r) → Run LP (.loop c :: ks) c s J)
  {x : σ} {s : St} (he : E x s) (hl : Loop f x = some r) : Run LP ks (.loop c) s J := by
 obtain ⟨n, hn⟩ := RB.mp hl
 clear hl
 induction n generalizing x s with
 | zero => simp [turns] at hn
 | succ n ih =>
  simp only [turns] at hn
  apply qz
  cases ho : f x with
  | none => rw [ho] at hn; simp at hn
  | some out =>
   rw [ho] at hn
   refine hs x s out he ho ?_ ?_
   ·rintro x' rfl s' hs'
    exact ih hs' hn
   ·rintro r' rfl
    exact Option.some.inj hn
class Gu (α : Type) extends zI α where
 len : ∀ x : α, (zI.cells x).length = zI.n α
 ok : ∀ x : α, ((zI.cells x).map LV.d).all LV.cellOk = true
class TA (α : Type) extends Gu α where
 agg : ∀ x : α, zI.enc x = .agg (zI.cells x)
class Bm (α : Type) extends TA α where
 key : α → List Int
 hkey : ∀ x : α, zI.cells x = (key x).map .int
instance : Gu Int := ⟨fun _ => rfl, fun _ => rfl⟩
instance : Gu Bool := ⟨fun _ => rfl, fun _ => rfl⟩
inductive Fv where
 | nil
 | mk (f : Nat) (first cap : List DV)
 deriving Inhabited
def Fv.dv : Fv → DV
 | nil => .nilfn
 | mk f a b => .fn f a b
instance : zI Fv := ⟨1, fun x => [x.dv], Fv.dv, fun x => by cases x <;> rfl⟩
inductive Mp (n : Nat) (α : Type) where
 | nil
 | mk (es : List (List Int × α))
 deriving Inhabited
section
variable {α : Type} [zI α] {n : Nat}
def Mp.dv : Mp n α → DV
 | nil => .nilmap
 | mk es => .fmap n (es.map fun p => (p.1, zI.enc p.2))
instance : zI (Mp n α) := ⟨1, fun x => [x.dv], Mp.dv, fun x => by cases x <;> rfl⟩
end
structure Ar (n : Nat) (α : Type) where
 l : List α
 h : l.length = n
instance {n : Nat} {α : Type} [zI α] : zI (Ar n α) := ⟨n * zI.n α, fun x => x.l.flatMap zI.cells, fun x => .agg (x.l.flatMap zI.cells), fun _ => rfl⟩
def Ar.ix {n : Nat} {α : Type} (x : Ar n α) (i : Int) : Option α := if 0 ≤ i then x.l[i.toNat]? else none
def Ar.put {n : Nat} {α : Type} (x : Ar n α) (i : Int) (v : α) : Ar n α := ⟨x.l.set i.toNat v, by rw [List.length_set]; exact x.h⟩
section
variable {α : Type} (x : Sl α)
theorem dt : x.spent.len = x.len := by cases x <;> rfl
theorem XV : x.spent.spent = x.spent := by cases x <;> rfl
theorem yQ : x.spent.l = x.l := by cases x <;> rfl
theorem lQ (i : Int) : x.spent.ix i = x.ix i := by cases x <;> rfl
theorem eF (xs : List α) : (Sl.hot xs).spent = .cold xs := rfl
theorem Z3 (xs : List α) : (Sl.cold xs).spent = .cold xs := rfl
theorem fZ : (Sl.nil : Sl α).spent = .nil := rfl
theorem aB (xs : List α) : (Sl.full xs).spent = .full xs := rfl
variable [zI α]
theorem iT : LV.cellOk (.d (zI.enc x)) = true := by cases x <;> rfl
theorem pw : LV.cellOk x.lv = true := by cases x <;> rfl
theorem cj : LV.known (.d (zI.enc x)) = some [.d (zI.enc x)] := by cases x <;> rfl
theorem Ve : LV.known x.lv = some [x.lv] := by cases x <;> rfl
theorem kT : zI.cells x = [zI.enc x] := rfl
theorem te : LV.toD x.lv = some (zI.enc x) := by cases x <;> rfl
theorem qn (xs : List α) : (Sl.cold xs).lv = .d (zI.enc (Sl.cold xs)) := rfl
theorem t7 : (Sl.nil : Sl α).lv = .d .nils := rfl
theorem rQ : zI.enc (Sl.nil : Sl α) = .nils := rfl
theorem Kx (k t : Nat) : MS k t (.v x.lv) = x.spent.lv := by cases x <;> rfl
theorem mj : vJ (.d (zI.enc x)) = some (.d (.int x.len)) := by cases x <;> simp [vJ, jo, N9, zI.enc, Sl.dv, Sl.len, Sl.l]
theorem kg : vJ x.lv = some (.d (.int x.len)) := by cases x <;> simp [vJ, jo, N9, Sl.lv, Sl.len, Sl.l]
theorem SO : zI.enc x.spent = zI.enc x := by cases x <;> rfl
theorem kS : zI.enc x.cool = zI.enc x := by cases x <;> rfl
theorem rB {i : Int} {a : α} {sz : Nat} (h : x.ix i = some a) (hz : zI.n α = sz) : qc sz (.d (zI.enc x)) (.d (.int i)) = some (.d (.fptr (zI.cells a) 0)) := by
 unfold Sl.ix at h
 split at h
 ·rename_i hi
  cases x <;> simp_all [Sl.l, qc, N9, F9, zI.enc, Sl.dv, zI.law]
  all_goals (obtain ⟨hl, rfl⟩ := List.getElem?_eq_some_iff.mp h; exact (zI.law _).symm ▸ rfl)
 ·simp at h
theorem vY {i : Int} {a : α} {sz : Nat} (h : x.ix i = some a) (hz : zI.n α = sz) : qc sz x.lv (.d (.int i)) = some (.d (.fptr (zI.cells a) 0)) := by
 have := rB x h hz
 cases x <;> exact this
end
section
variable {α : Type} [TA α] (x : α)
theorem Rh : LV.known (.d (zI.enc x)) = some ((zI.cells x).map .d) := by rw [TA.agg]; rfl
theorem sS {n : Nat} (hn : zI.n α = n) : Zl n (.d (zI.enc x)) = some ((zI.cells x).map .d) := by
 simp only [Zl, Rh, List.length_map, Gu.len, hn, Gu.ok, and_self, if_true]
end
theorem mP (a : Int) : Zl 1 (.d (.int a)) = some [.d (.int a)] := rfl
theorem eC (a : Bool) : Zl 1 (.d (.bool a)) = some [.d (.bool a)] := rfl
theorem qq {α : Type} [zI α] (x : Sl α) : Zl 1 (.d (zI.enc x)) = some [.d (zI.enc x)] := by
 simp [Zl, cj, iT]
theorem G3 (v : DV) : (LV.d v).copy = .d v := rfl
theorem Q2 (cs : List DV) : AZ (cs.map .d) = some cs := by
 induction cs with
 | nil => rfl
 | cons c cs ih => simp [AZ, LV.toD, ih]
theorem az (k : Option Nat) (off : Nat) (cs : List DV) : part k off (cs.map .d) = (A4 k off cs).map .d := by
 cases k with
 | none => simp only [part, A4, List.getElem?_map, Option.map_map]; rfl
 | some n =>
  have hm : (((cs.map LV.d).drop off).take n).map LV.copy = ((cs.drop off).take n).map LV.d := by
   rw [← List.map_drop, ← List.map_take, List.map_map]
   rfl
  have hl : (((cs.map LV.d).drop off).take n).length = ((cs.drop off).take n).length := by
   rw [← List.map_drop, ← List.map_take, List.length_map]
  simp only [part, A4, hm, hl]
  split
  ·simp only [LV.norm, LV.toD, Q2, Option.map_some]
  ·rfl
theorem mt (k : Option Nat) (off : Nat) (cs : List DV) : Ld k off (.d (.agg cs)) = (A4 k off cs).map .d := rfl
theorem PD {α : Type} [TA α] (x : α) (k : Option Nat) (off : Nat) : Ld k off (.d (zI.enc x)) = (A4 k off (zI.cells x)).map .d := by rw [TA.agg]; rfl
theorem Z4 (k : Option Nat) (off g : Nat) (cs : List DV) : HG k off g (some (.box g (cs.map .d))) = (A4 k off cs).map .d := by simp only [HG, if_true, az]
theorem WC (g : Nat) (v : DV) : HG none 0 g (some (.box g [.d v])) = some (.d v) := by simp [HG, part, LV.copy]
theorem I6 (s : St) (t g : Nat) : s.cells s.low.length t g = match s.raw t with
  | some (.box g' cs) => if g' = g then some cs else none
  | _ => none := by
 simp only [St.cells, St.at, if_true, St.raw]
 cases s.env.get t with
 | none => rfl
 | some x => cases x <;> rfl
theorem gB (s : St) (k : Option Nat) (j t g off : Nat) (hj : j = s.low.length) : Q5 s k none (.ptr j t g off) = HG k off g (s.raw t) := by
 subst hj
 simp only [Q5, Au, if_true, I6]
 cases s.raw t with
 | none => rfl
 | some x => cases x with
  | box g' cs =>
   simp only [HG]
   by_cases hg : g' = g
   ·simp only [if_pos hg]
   ·simp only [if_neg hg]
  | _ => rfl
theorem ag (s : St) (k : Option Nat) (j t g off : Nat) (hj : j = s.low.length) : Q5 s k (some (some t)) (.ptr j t g off) = HG k off g (s.raw t) := by
 subst hj
 have h : Au s.low.length (some (some t)) (some (.ptr s.low.length t g off)) = true := by simp [Au]
 simp only [Q5, h, if_true, I6]
 cases s.raw t with
 | none => rfl
 | some x => cases x with
  | box g' cs =>
   simp only [HG]
   by_cases hg : g' = g
   ·simp only [if_pos hg]
   ·simp only [if_neg hg]
  | _ => rfl
theorem aG (s : St) (k : Option Nat) (ro : Option (Option Nat)) (cs : List DV) (off : Nat) : Q5 s k ro (.d (.fptr cs off)) = (A4 k off cs).map .d := by
 have h : Au s.low.length ro (some (.d (.fptr cs off))) = true := by cases ro <;> rfl
 simp only [Q5, h, if_true]
theorem ac (off j t g o : Nat) : JL off (.ptr j t g o) = some (.ptr j t g (o + off)) := rfl
theorem X3 (off : Nat) (cs : List DV) (o : Nat) : JL off (.d (.fptr cs o)) = some (.d (.fptr cs (o + off))) := rfl
theorem Z8 (k : Nat) (p : Option LV) : Au k none p = true := rfl
theorem Zk (j k t g off : Nat) (h : j = k) : Au k (some (some t)) (some (.ptr j t g off)) = true := by simp [Au, h]
theorem Xy (k : Nat) (ro : Option (Option Nat)) (v : DV) : Au k ro (some (.d v)) = true := by cases ro <;> rfl
def nU (s : St) : Opd → Option BM
 | .tmp u => s.raw u
 | .con v => some (.v (.d v))
 | .glob _ => none
section
variable (LP : BA) (C : AS)
def TF (g : Nat) (r : List AG) (s : St) (n t g' off : Nat) (x : Opd) : Option BM → Option St
 | some (.v (.d v)) => jZ LP C g r ((Gg n off g' (LV.known (.d v)) (s.raw t)).map fun b => s.upd t b)
 | some (.v (.hot z xs)) => match x with
  | .tmp u => jZ LP C g r ((Gg n off g' (some [.hot z xs]) (if u = t then some (.v (.d (.slice z xs))) else s.raw t)).map fun b => (s.upd u (.v (.d (.slice z xs)))).upd t b)
  | _ => none
 | _ => Ip LP C g r s n (.ptr s.low.length t g' off) x
variable {LP C} (g : Nat) (r : List AG) (s : St)
theorem Zv (n j t g' off : Nat) (x : Opd) (hj : j = s.low.length) : Ip LP C g r s n (.ptr j t g' off) x = TF LP C g r s n t g' off x (nU s x) := by
 subst hj
 have main : ∀ (y : LV) (s1 : St), s1.low = s.low → s.take LP x = (y, s1) → Ip LP C g r s n (.ptr s.low.length t g' off) x = jZ LP C g r ((Gg n off g' y.known (s1.raw t)).map fun b => s1.upd t b) := by
  intro y s1 hl ht
  simp only [Ip, ht]
  rw [← hl, I6]
  cases hx : s1.raw t with
  | none => rfl
  | some z => cases z with
   | box g2 cs =>
    simp only [Gg]
    by_cases hg : g2 = g'
    ·subst hg
     simp only [if_true]
     cases y.known with
     | none => rfl
     | some xs =>
      simp only
      by_cases hc : xs.length = n ∧ off + n ≤ cs.length ∧ xs.all LV.cellOk = true
      ·simp only [if_pos hc, Option.map_some, St.setAt, hl, if_true, St.upd]
      ·simp only [if_neg hc]; rfl
    ·simp only [if_neg hg]
     cases y.known <;> rfl
   | _ => rfl
 cases x with
 | con v => exact main (.d v) s rfl rfl
 | glob n => rfl
 | tmp u =>
  simp only [nU]
  cases hu : s.raw u with
  | none => rfl
  | some z => cases z with
   | v z => cases z with
    | d v => exact main (.d v) s rfl (by simp only [St.take]; unfold St.raw at hu; simp only [hu, St.slot, LV.copy])
    | hot z xs =>
     rw [main (.hot z xs) (s.upd u (.v (.d (.slice z xs)))) rfl (by simp only [St.take]; unfold St.raw at hu; simp only [hu]; rfl)]
     simp only [TF, Ag, LV.known]
    | _ => rfl
   | _ => rfl
end
theorem vl {n g : Nat} {xs cs : List LV} (h1 : cs.length = n) (h2 : xs.length = n) (h3 : xs.all LV.cellOk = true) : Gg n 0 g (some xs) (some (.box g cs)) = some (.box g xs) := by
 simp only [Gg, if_true, h1, h2, h3, Nat.zero_add, Nat.le_refl, and_self, Option.some.injEq, BM.box.injEq, true_and]
 simp [setCells, h1, h2]
def ON (C : AS) (f : Nat) (ds : List DV) : Option LV := match C.call f (ds.map .d) [] 0 with
 | some (v, _, _) => v.toD.map .d
 | none => none
def uN (C : AS) (f : Nat) : Option (List DV) → Option LV
 | some ds => ON C f ds
 | none => none
theorem kW (C : AS) (f : Nat) (args : List LV) : iu C (.d (.fn f [] [])) args = uN C f (AZ args) := by
 simp only [iu, target, List.map_nil]
 cases AZ args with
 | none => rfl
 | some ds => simp only [AZ, List.nil_append, List.append_nil]; rfl
theorem Vr (C : AS) (f : Nat) (ds : List DV) : uN C f (some ds) = ON C f ds := rfl
theorem Vf : AZ [] = some [] := rfl
theorem mm (v : DV) (r : List LV) : AZ (.d v :: r) = (AZ r).map (v :: ·) := by
 simp only [AZ, LV.toD]; cases AZ r <;> rfl
theorem qm {α : Type} [zI α] (x : Sl α) (r : List LV) : AZ (x.lv :: r) = (AZ r).map (zI.enc x :: ·) := by
 simp only [AZ, te]; cases AZ r <;> rfl
theorem dh {α β : Type} [zI α] [zI β] (x : α × β) : sa 0 (some (.v (.d (zI.enc x)))) = some (.d (zI.enc x.1)) := rfl
theorem aF {α β : Type} [zI α] [zI β] (x : α × β) : sa 1 (some (.v (.d (zI.enc x)))) = some (.d (zI.enc x.2)) := rfl
theorem pF (x : Int) : zI.enc x = .int x := rfl
theorem mZ (x : Bool) : zI.enc x = .bool x := rfl
theorem gg (x : Int) : zI.cells x = [.int x] := rfl
theorem Zz (x : Bool) : zI.cells x = [.bool x] := rfl
theorem dz (x : DV) : A4 none 0 [x] = some x := rfl
theorem Nj (LP : BA) (s : St) (t : Nat) : s.val LP (.tmp t) = s.slot t := rfl
theorem pH (LP : BA) (s : St) (v : DV) : s.val LP (.con v) = .d v := rfl
theorem pK (a b : LV) : qP (.d (.bool true)) a b = some a := rfl
theorem qW (a b : LV) : qP (.d (.bool false)) a b = some b := rfl
theorem lr (a b : Int) : lC .add (.d (.int a)) (.d (.int b)) = some (.d (.int (W (a + b)))) := rfl
theorem mV (a b : Int) : lC .sub (.d (.int a)) (.d (.int b)) = some (.d (.int (W (a - b)))) := rfl
theorem lP (a b : Int) : lC .mul (.d (.int a)) (.d (.int b)) = some (.d (.int (W (a * b)))) := rfl
theorem kO (a b : Int) : lC .lss (.d (.int a)) (.d (.int b)) = some (.d (.bool (decide (a < b)))) := rfl
theorem kQ (a b : Int) : lC .leq (.d (.int a)) (.d (.int b)) = some (.d (.bool (decide (a ≤ b)))) := rfl
theorem kX (a b : Int) : lC .gtr (.d (.int a)) (.d (.int b)) = some (.d (.bool (decide (b < a)))) := rfl
theorem lI (a b : Int) : lC .geq (.d (.int a)) (.d (.int b)) = some (.d (.bool (decide (b ≤ a)))) := rfl
theorem kL (a b : Int) : lC .eql (.d (.int a)) (.d (.int b)) = some (.d (.bool (decide (a = b)))) := by
 show (B2 (binOp .eql 0 (.int .i64 a) (.int .i64 b))).map LV.d = _
 rw [wI]; rfl
theorem lA (a b : Int) : lC .neq (.d (.int a)) (.d (.int b)) = some (.d (.bool (!decide (a = b)))) := by
 show (B2 (binOp .neq 0 (.int .i64 a) (.int .i64 b))).map LV.d = _
 rw [wm]; rfl
theorem qH (b : Bool) : zz .not (.d (.bool b)) = some (.d (.bool (!b))) := rfl
theorem vn (keep : List Nat) (s : St) : tR keep (some s) = some (s.env.keep keep, s.low) := rfl
def bj : List Nat → St → Env
 | [], _ => []
 | t :: ts, s => match s.raw t with
  | some x => (t, x) :: bj ts s
  | none => bj ts s
theorem xu (ks : List Nat) (s : St) : s.env.keep ks = bj ks s := by
 induction ks with
 | nil => rfl
 | cons t ts ih =>
  simp only [Env.keep, List.filterMap_cons, bj, St.raw] at *
  cases s.env.get t with
  | none => exact ih
  | some x => simp only [Option.map_some]; rw [ih]
def wt (t : Nat) (ts : List Nat) (s : St) : Option BM → Env
 | some x => (t, x) :: bj ts s
 | none => bj ts s
theorem vr (t : Nat) (ts : List Nat) (s : St) : bj (t :: ts) s = wt t ts s (s.raw t) := rfl
theorem vw (t : Nat) (ts : List Nat) (s : St) (x : BM) : wt t ts s (some x) = (t, x) :: bj ts s := rfl
theorem wq (s : St) : bj [] s = [] := rfl
instance {α : Type} [zI α] : Gu (Sl α) := ⟨fun _ => rfl, fun x => by cases x <;> rfl⟩
instance : Gu Fv := ⟨fun _ => rfl, fun x => by cases x <;> rfl⟩
instance {n : Nat} {α : Type} [zI α] : Gu (Mp n α) := ⟨fun _ => rfl, fun x => by cases x <;> rfl⟩
theorem lW {α : Type} [Gu α] : ∀ l : List α, (l.flatMap zI.cells).length = l.length * zI.n α
 | [] => by simp
 | x :: l => by simp only [List.flatMap_cons, List.length_append, Gu.len, lW l, List.length_cons]; rw [Nat.add_mul, Nat.one_mul, Nat.add_comm]
theorem kA {α : Type} [Gu α] : ∀ l : List α, ((l.flatMap zI.cells).map LV.d).all LV.cellOk = true
 | [] => rfl
 | x :: l => by rw [List.flatMap_cons, List.map_append, List.all_append, Gu.ok, kA l]; rfl
instance {n : Nat} {α : Type} [Gu α] : TA (Ar n α) := { len := fun x => by show (x.l.flatMap zI.cells).length = n * zI.n α; rw [lW, x.h], ok := fun x => kA x.l, agg := fun _ => rfl }
theorem xl {n : Nat} {α : Type} [zI α] (x : Ar n α) : zI.cells x = x.l.flatMap zI.cells := rfl
theorem SG : ∀ l : List Int, l.flatMap zI.cells = l.map DV.int
 | [] => rfl
 | x :: l => by rw [List.flatMap_cons, SG l]; rfl
instance {n : Nat} : Bm (Ar n Int) := { key := fun x => x.l, hkey := fun x => SG x.l }
theorem da (a : Int) : LV.known (.d (.int a)) = some [.d (.int a)] := rfl
theorem ah (a : Bool) : LV.known (.d (.bool a)) = some [.d (.bool a)] := rfl
theorem Zh : LV.known (.d .nils) = some [.d .nils] := rfl
theorem mM (a : Fv) : LV.known (.d (zI.enc a)) = some [.d (zI.enc a)] := by cases a <;> rfl
theorem mK {n : Nat} {α : Type} [zI α] (a : Mp n α) : LV.known (.d (zI.enc a)) = some [.d (zI.enc a)] := by cases a <;> rfl
theorem kK (x : Fv) : zI.cells x = [zI.enc x] := rfl
theorem kR {n : Nat} {α : Type} [zI α] (x : Mp n α) : zI.cells x = [zI.enc x] := rfl
theorem qI (x : Fv) : Zl 1 (.d (zI.enc x)) = some [.d (zI.enc x)] := by cases x <;> rfl
theorem dc : Zl 1 (.d .nils) = some [.d .nils] := rfl
theorem qp {α : Type} [zI α] (x : Sl α) : Zl 1 x.lv = some [x.lv] := by cases x <;> rfl
def Dx (n off : Nat) (xs cs : List LV) : Option (List LV) := if xs.length = n ∧ off + n ≤ cs.length ∧ xs.all LV.cellOk then some (setCells cs off xs) else none
theorem aS (n off g : Nat) (xs cs : List LV) : Gg n off g (some xs) (some (.box g cs)) = (Dx n off xs cs).map fun c => .box g c := by
 simp only [Gg, Dx, if_true]
 by_cases h : xs.length = n ∧ off + n ≤ cs.length ∧ xs.all LV.cellOk = true
 ·simp only [if_pos h, Option.map_some]
 ·simp only [if_neg h, Option.map_none]
theorem Zb {α : Type} [TA α] (x : α) {n : Nat} {cs : List LV} (h1 : cs.length = n) (h2 : zI.n α = n) : Dx n 0 ((zI.cells x).map LV.d) cs = some ((zI.cells x).map LV.d) := by
 have h3 := Gu.len x
 have h4 := Gu.ok x
 simp only [Dx, List.length_map, h3, h2, h4, Nat.zero_add, h1, Nat.le_refl, and_self, if_true]
 simp [setCells, h1, h2, h3]
theorem FP {y : LV} (c : LV) (h : y.cellOk = true) : Dx 1 0 [y] [c] = some [y] := by
 simp [Dx, h, setCells]
theorem aM (c : LV) (a : Int) : Dx 1 0 [.d (.int a)] [c] = some [.d (.int a)] := FP c rfl
theorem YC (c : LV) (a : Bool) : Dx 1 0 [.d (.bool a)] [c] = some [.d (.bool a)] := FP c rfl
theorem gl {α : Type} [zI α] (c : LV) (a : Sl α) : Dx 1 0 [.d (zI.enc a)] [c] = some [.d (zI.enc a)] := FP c (iT a)
theorem dq {α : Type} [zI α] (c : LV) (a : Sl α) : Dx 1 0 [a.lv] [c] = some [a.lv] := FP c (pw a)
theorem hG (c : LV) (a : Fv) : Dx 1 0 [.d (zI.enc a)] [c] = some [.d (zI.enc a)] := FP c (by cases a <;> rfl)
theorem iO {α : Type} [Gu α] (x : α) : ((zI.cells x).map LV.d).length = zI.n α := by rw [List.length_map, Gu.len]
theorem Ik {α : Type} {x v : Sl α} {lo hi : Option Int} (h : x.sub lo hi = some v) : (∀ a, lo = some a → 0 ≤ a) ∧ (∀ a, hi = some a → 0 ≤ a) := by
 have : 0 ≤ lo.getD 0 ∧ 0 ≤ hi.getD 0 := by
  cases x <;> simp only [Sl.sub] at h <;> split at h <;> rename_i hc <;> first | (cases h; done) | (cases hi <;> simp_all <;> omega)
 constructor
 ·rintro a rfl; exact this.1
 ·rintro a rfl; exact this.2
section
variable {LP : BA} {C : AS} {α : Type} [zI α]
theorem fq (g : Nat) (r : List AG) (s : St) (n t g' off : Nat) (x : Opd) (v : DV) : TF LP C g r s n t g' off x (some (.v (.d v))) = jZ LP C g r ((Gg n off g' (LV.known (.d v)) (s.raw t)).map fun b => s.upd t b) := rfl
theorem Nc : ∀ (e : Env) (t : Nat) (x : BM), e.get t = some x → e.set t x = e
 | [], t, x, h => by simp [Env.get] at h
 | (u, y) :: e, t, x, h => by
  simp only [Env.get] at h
  simp only [Env.set]
  by_cases hu : u = t
  ·subst hu; simp only [if_true, Option.some.injEq] at h ⊢; rw [h]
  ·simp only [if_neg hu] at h ⊢; rw [Nc e t x h]
theorem EI (s : St) (t : Nat) (x : BM) (h : s.raw t = some x) : s.upd t x = s := by
 obtain ⟨e, low, ctr⟩ := s
 simp only [St.upd, Nc e t x h]
theorem eu (g : Nat) (r : List AG) (s : St) (t : Option Nat) (u : Nat) (x : Sl α) (h : s.raw u = some (.v x.lv)) : iI LP C g r s t u (some (.v x.lv)) = Gq LP C g r (s.upd u (.v x.spent.lv)) t (some x.lv) := by
 have hs : s.slot u = x.spent.lv := by rw [IG, h]; exact Kx x _ _
 cases x with
 | hot xs => rfl
 | nil => rw [show (Sl.nil : Sl α).spent = Sl.nil from rfl, EI s u _ h]; exact congrArg (fun y => Gq LP C g r s t (some y)) hs
 | cold xs => rw [show (Sl.cold xs).spent = Sl.cold xs from rfl, EI s u _ h]; exact congrArg (fun y => Gq LP C g r s t (some y)) hs
 | full xs => rw [show (Sl.full xs).spent = Sl.full xs from rfl, EI s u _ h]; exact congrArg (fun y => Gq LP C g r s t (some y)) hs
theorem tH (g : Nat) (r : List AG) (s : St) (t : Option Nat) (u : Nat) (v : DV) (h : s.raw u = some (.v (.d v))) : iI LP C g r s t u (some (.v (.d v))) = Gq LP C g r s t (some (.d v)) := by
 have hs : s.slot u = .d v := by rw [IG, h]; rfl
 simp only [iI, hs]
theorem Rb (g : Nat) (r : List AG) (s : St) (t : Option Nat) (u sz q : Nat) (y : LV) (x : Sl α) (h : s.raw u = some (.v x.lv)) : gR LP C g r s t u sz q y (some (.v x.lv)) = Gq LP C g r (s.upd u (.v x.spent.lv)) t (BI sz q x.lv y) := by
 have hs : s.slot u = x.spent.lv := by rw [IG, h]; exact Kx x _ _
 cases x with
 | hot xs => rfl
 | nil => rw [show (Sl.nil : Sl α).spent = Sl.nil from rfl, EI s u _ h]; exact congrArg (fun z => Gq LP C g r s t (BI sz q z y)) hs
 | cold xs => rw [show (Sl.cold xs).spent = Sl.cold xs from rfl, EI s u _ h]; exact congrArg (fun z => Gq LP C g r s t (BI sz q z y)) hs
 | full xs => rw [show (Sl.full xs).spent = Sl.full xs from rfl, EI s u _ h]; exact congrArg (fun z => Gq LP C g r s t (BI sz q z y)) hs
theorem xf (g : Nat) (r : List AG) (s : St) (t : Option Nat) (u sz q : Nat) (y : LV) (v : DV) (h : s.raw u = some (.v (.d v))) : gR LP C g r s t u sz q y (some (.v (.d v))) = Gq LP C g r s t (BI sz q (.d v) y) := by
 have hs : s.slot u = .d v := by rw [IG, h]; rfl
 simp only [gR, hs]
theorem kN {q : Nat} {x r : Sl α} {ys : List α} {Y : LV} (hY : Y ≠ .d .nils) (hE : N9 Y = some (zI.n α, ys.map zI.enc)) (h : x.app q ys = some r) : BI (zI.n α) q x.lv Y = some r.lv := by
 have e : BI (zI.n α) q x.lv Y = match x.lv with
   | .d .nils => if ys.map (zI.enc (α := α)) = [] then some (.d .nils) else if Jx (ys.map (zI.enc (α := α))).length q then some (.hot (zI.n α) (ys.map zI.enc)) else none
   | .full z xs => if z = zI.n α then (if ys.map (zI.enc (α := α)) = [] then some (.full z xs) else if Jx (xs.length + (ys.map (zI.enc (α := α))).length) q then some (.hot (zI.n α) (xs ++ ys.map zI.enc)) else none) else none
   | .hot z xs => if z = zI.n α ∧ Jx (xs.length + (ys.map (zI.enc (α := α))).length) q = true then some (.hot (zI.n α) (xs ++ ys.map zI.enc)) else none
   | _ => none := by
  unfold BI
  split
  ·exact absurd rfl hY
  ·simp only [hE, ne_eq, not_true_eq_false, if_false]
   rfl
 rw [e]
 cases x with
 | nil =>
  simp only [Sl.app] at h
  simp only [Sl.lv, List.map_eq_nil_iff, List.length_map]
  by_cases h1 : ys = []
  ·rw [if_pos h1] at h ⊢; cases h; rfl
  ·rw [if_neg h1] at h ⊢
   by_cases h2 : Jx ys.length q = true
   ·rw [if_pos h2] at h ⊢; cases h; rfl
   ·rw [if_neg h2] at h; cases h
 | cold xs => simp only [Sl.app] at h; cases h
 | hot xs =>
  simp only [Sl.app] at h
  simp only [Sl.lv, List.length_map, true_and]
  by_cases h2 : Jx (xs.length + ys.length) q = true
  ·rw [if_pos h2] at h ⊢; cases h; simp
  ·rw [if_neg h2] at h; cases h
 | full xs =>
  simp only [Sl.app] at h
  simp only [Sl.lv, List.map_eq_nil_iff, List.length_map, if_true]
  by_cases h1 : ys = []
  ·rw [if_pos h1] at h ⊢; cases h; rfl
  ·rw [if_neg h1] at h ⊢
   by_cases h2 : Jx (xs.length + ys.length) q = true
   ·rw [if_pos h2] at h ⊢; cases h; simp
   ·rw [if_neg h2] at h; cases h
theorem mL {q : Nat} {x r : Sl α} (h : x.app q [] = some r) : BI (zI.n α) q x.lv (.d .nils) = some r.lv := by
 cases x with
 | nil => simp only [Sl.app, if_true] at h; cases h; rfl
 | cold xs => simp only [Sl.app] at h; cases h
 | hot xs =>
  simp only [Sl.app, List.append_nil] at h
  simp only [BI, Sl.lv, if_true]
  by_cases h2 : Jx (xs.length + ([] : List α).length) q = true
  ·rw [if_pos h2] at h; cases h; rfl
  ·rw [if_neg h2] at h; cases h
 | full xs => simp only [Sl.app, if_true] at h; cases h; simp [BI, Sl.lv]
theorem rF {q sz : Nat} {x y r : Sl α} (hz : zI.n α = sz) (h : x.app q y.l = some r) : BI sz q x.lv y.lv = some r.lv := by
 subst hz
 cases y with
 | nil => exact mL h
 | _ => exact kN (by simp [Sl.lv]) rfl h
theorem rN {q sz : Nat} {x y r : Sl α} (hz : zI.n α = sz) (h : x.app q y.l = some r) : BI sz q x.lv (.d (zI.enc y)) = some r.lv := by
 subst hz
 cases y with
 | nil => exact mL h
 | _ => exact kN (by simp [zI.enc, Sl.dv]) rfl h
theorem Ov (x : Sl α) : x.cool.lv = .d (zI.enc x) := by cases x <;> rfl
theorem wB {q sz : Nat} {x y r : Sl α} (hz : zI.n α = sz) (h : x.cool.app q y.l = some r) : BI sz q (.d (zI.enc x)) (.d (zI.enc y)) = some r.lv := by
 have := rN hz h
 rwa [Ov] at this
theorem wa {q sz : Nat} {x y r : Sl α} (hz : zI.n α = sz) (h : x.cool.app q y.l = some r) : BI sz q (.d (zI.enc x)) y.lv = some r.lv := by
 have := rF hz h
 rwa [Ov] at this
theorem yi {q sz : Nat} {x y r : Sl α} {ys : List α} (hz : zI.n α = sz) (hy : y.l = ys) (h : x.app q ys = some r) : BI sz q x.lv y.lv = some r.lv := rF hz (hy ▸ h)
theorem E5 {q sz : Nat} {x y r : Sl α} {ys : List α} (hz : zI.n α = sz) (hy : y.l = ys) (h : x.app q ys = some r) : BI sz q x.lv (.d (zI.enc y)) = some r.lv := rN hz (hy ▸ h)
theorem ye {q sz : Nat} {y r : Sl α} {ys : List α} (hz : zI.n α = sz) (hy : y.l = ys) (h : (Sl.nil : Sl α).app q ys = some r) : BI sz q (.d .nils) (.d (zI.enc y)) = some r.lv := rN (x := Sl.nil) hz (hy ▸ h)
theorem yp {q sz : Nat} {y r : Sl α} {ys : List α} (hz : zI.n α = sz) (hy : y.l = ys) (h : (Sl.nil : Sl α).app q ys = some r) : BI sz q (.d .nils) y.lv = some r.lv := rF (x := Sl.nil) hz (hy ▸ h)
theorem yP {q sz : Nat} {x y r : Sl α} {ys : List α} (hz : zI.n α = sz) (hy : y.l = ys) (h : x.cool.app q ys = some r) : BI sz q (.d (zI.enc x)) (.d (zI.enc y)) = some r.lv := wB hz (hy ▸ h)
theorem yF {q sz : Nat} {x y r : Sl α} {ys : List α} (hz : zI.n α = sz) (hy : y.l = ys) (h : x.cool.app q ys = some r) : BI sz q (.d (zI.enc x)) y.lv = some r.lv := wa hz (hy ▸ h)
theorem ku {q : Nat} {x v : Sl α} {ys : List α} (h : x.app q ys = some v) (hy : ys ≠ []) : v.spent.lv = .d (zI.enc v) := by
 cases x with
 | nil => simp only [Sl.app, if_neg hy] at h; split at h <;> cases h; rfl
 | cold xs => simp only [Sl.app] at h; cases h
 | hot xs => simp only [Sl.app] at h; split at h <;> cases h; rfl
 | full xs => simp only [Sl.app, if_neg hy] at h; split at h <;> cases h; rfl
theorem tM {q : Nat} {xs : List α} {v : Sl α} {ys : List α} (h : (Sl.hot xs).app q ys = some v) : v.spent.lv = .d (zI.enc v) := by
 simp only [Sl.app] at h; split at h <;> cases h; rfl
theorem Zs {i : Int} (h : 0 ≤ i) : F9 (.d (.int i)) = some i.toNat := by simp [F9, h]
theorem PH {x v : Sl α} {sz : Nat} {lo hi : Option Int} (hz : zI.n α = sz) (h : x.sub lo hi = some v) (h0 : ∀ a, lo = some a → 0 ≤ a) (h1 : ∀ a, hi = some a → 0 ≤ a) :
  P0 sz (.d (zI.enc x)) (lo.map Int.toNat) (hi.map Int.toNat) none = some (.d (zI.enc v)) := by
 subst hz
 have main : ∀ xs : List α, (if 0 ≤ lo.getD 0 ∧ lo.getD 0 ≤ hi.getD xs.length ∧ hi.getD xs.length ≤ xs.length then some (Sl.cold ((xs.take (hi.getD xs.length).toNat).drop (lo.getD 0).toNat)) else none) = some v →
   P0 (zI.n α) (.d (.slice (zI.n α) (xs.map zI.enc))) (lo.map Int.toNat) (hi.map Int.toNat) none = some (.d (zI.enc v)) := by
  intro xs h
  split at h
  ·rename_i hc
   cases h
   have e1 : (lo.map Int.toNat).getD 0 = (lo.getD 0).toNat := by cases lo <;> rfl
   have e2 : (hi.map Int.toNat).getD xs.length = (hi.getD xs.length).toNat := by cases hi <;> simp
   simp only [P0, N9, e1, List.length_map, e2]
   rw [if_pos ⟨trivial, by omega, by omega⟩]
   simp [zI.enc, Sl.dv, List.map_take, List.map_drop]
  ·cases h
 cases x with
 | nil =>
  simp only [Sl.sub] at h
  split at h
  ·rename_i hc
   cases h
   have e1 : (lo.map Int.toNat).getD 0 = 0 := by cases lo <;> simp_all
   have e2 : (hi.map Int.toNat).getD 0 = 0 := by cases hi <;> simp_all
   simp [zI.enc, Sl.dv, P0, e1, e2]
  ·cases h
 | cold xs => exact main xs h
 | hot xs => exact main xs h
 | full xs => exact main xs h
theorem IK {a : Int} (h : 0 ≤ a) : G4 (some (.d (.int a))) = some (some a.toNat) := by simp [G4, F9, h]
theorem xg {x v : Sl α} {sz : Nat} (hz : zI.n α = sz) (h : x.sub none none = some v) : Ix sz (.d (zI.enc x)) none none none = some (.d (zI.enc v)) := by
 have := PH hz h (Ik h).1 (Ik h).2
 simpa [Ix, G4] using this
theorem mQ {x v : Sl α} {sz : Nat} {a : Int} (hz : zI.n α = sz) (h : x.sub (some a) none = some v) : Ix sz (.d (zI.enc x)) (some (.d (.int a))) none none = some (.d (zI.enc v)) := by
 have := PH hz h (Ik h).1 (Ik h).2
 simpa [Ix, IK ((Ik h).1 a rfl), show G4 none = some none from rfl] using this
theorem kM {x v : Sl α} {sz : Nat} {b : Int} (hz : zI.n α = sz) (h : x.sub none (some b) = some v) : Ix sz (.d (zI.enc x)) none (some (.d (.int b))) none = some (.d (zI.enc v)) := by
 have := PH hz h (Ik h).1 (Ik h).2
 simpa [Ix, IK ((Ik h).2 b rfl), show G4 none = some none from rfl] using this
theorem xm {x v : Sl α} {sz : Nat} {a b : Int} (hz : zI.n α = sz) (h : x.sub (some a) (some b) = some v) : Ix sz (.d (zI.enc x)) (some (.d (.int a))) (some (.d (.int b))) none = some (.d (zI.enc v)) := by
 have := PH hz h (Ik h).1 (Ik h).2
 simpa [Ix, IK ((Ik h).1 a rfl), IK ((Ik h).2 b rfl), show G4 none = some none from rfl] using this
theorem LQ {x v : Sl α} {sz : Nat} {b : Int} (hz : zI.n α = sz) (h : x.sub3 none b = some v) : Ix sz (.d (zI.enc x)) none (some (.d (.int b))) (some (.d (.int b))) = some v.lv := by
 subst hz
 have main : ∀ xs : List α, (if 0 ≤ (none : Option Int).getD 0 ∧ (none : Option Int).getD 0 ≤ b ∧ b ≤ xs.length then some (Sl.full ((xs.take b.toNat).drop ((none : Option Int).getD 0).toNat)) else none) = some v →
   Ix (zI.n α) (.d (.slice (zI.n α) (xs.map zI.enc))) none (some (.d (.int b))) (some (.d (.int b))) = some v.lv := by
  intro xs h
  split at h
  ·rename_i hc
   cases h
   simp only [Option.getD_none] at hc
   have hb : 0 ≤ b := by omega
   simp only [Ix, IK hb, show G4 none = some none from rfl, P0, N9, Option.getD_some, Option.getD_none, List.length_map]
   rw [if_pos ⟨trivial, by omega, by omega⟩]
   simp [Sl.lv, List.map_take]
  ·cases h
 cases x with
 | nil =>
  simp only [Sl.sub3] at h
  split at h
  ·rename_i hc
   obtain ⟨_, rfl⟩ := hc
   cases h
   rfl
  ·cases h
 | cold xs => exact main xs h
 | hot xs => exact main xs h
 | full xs => exact main xs h
end
theorem Ph {α : Type} [zI α] (x : Sl α) : LV.cellOk (.d (zI.enc x)) = true := by cases x <;> rfl
theorem Ku (x : Int) : LV.cellOk (.d (.int x)) = true := rfl
theorem VU (j t g : Nat) : LV.cellOk (.mref j t g) = true := rfl
theorem H7 (x : Bool) : LV.cellOk (.d (.bool x)) = true := rfl
theorem PQ (x : Fv) : LV.cellOk (.d (zI.enc x)) = true := by cases x <;> rfl
theorem Pj {n : Nat} {α : Type} [zI α] (x : Mp n α) : LV.cellOk (.d (zI.enc x)) = true := by cases x <;> rfl
def St.tick (s : St) (n : Nat) : St := { s with ctr := s.ctr + n }
theorem mT (s : St) (n t : Nat) : (s.tick n).raw t = s.raw t := rfl
theorem du (s : St) (n t : Nat) : (s.tick n).free t = s.free t := rfl
theorem mA (s : St) (n : Nat) : (s.tick n).low = s.low := rfl
def ve (k t : Nat) : Option BM → LV
 | some x => MS k t x
 | none => .d .bot
theorem Fe (k t : Nat) (x : BM) : ve k t (some x) = MS k t x := rfl
theorem Jb (s : St) (t : Nat) : s.slot t = ve s.low.length t (s.raw t) := by
 rw [IG]; cases s.raw t <;> rfl
def NoB (B : List Nat) (s : St) : Prop := ∀ u, B.contains u = false → s.free u = true
def B9 : List (Nat × BM) → St → Prop
 | [], _ => True
 | (t, x) :: l, s => s.raw t = some x ∧ B9 l s
@[reducible] def B6 : List (Nat × BM) → St → Prop
 | [], _ => True
 | (t, x) :: l, s => s.raw t = some x ∧ B6 l s
theorem B9.r {s : St} : ∀ {l : List (Nat × BM)}, B9 l s → B6 l s
 | [], _ => trivial
 | _ :: _, h => ⟨h.1, B9.r h.2⟩
theorem aK (s : St) : B9 [] s = True := rfl
theorem Wy (t : Nat) (x : BM) (l : List (Nat × BM)) (s : St) : B9 ((t, x) :: l) s = (s.raw t = some x ∧ B9 l s) := rfl
theorem KI (ks : List Nat) (e : Env) (t : Nat) : (e.keep ks).get t = if ks.contains t then e.get t else none := by
 induction ks with
 | nil => rfl
 | cons k ks ih =>
  simp only [Env.keep, List.filterMap_cons] at ih ⊢
  rw [List.contains_cons]
  by_cases h : t = k
  ·subst h
   cases he : e.get t with
   | none =>
    simp only [Option.map_none, ih, he]
    simp
   | some x => simp [Env.get, he]
  ·have hk : (t == k) = false := by simpa using h
   rw [hk, Bool.false_or]
   cases he : e.get k with
   | none => simp only [Option.map_none]; exact ih
   | some x =>
    simp only [Option.map_some, Env.get, if_neg (Ne.symm h)]
    exact ih
theorem mi (s : St) (ks : List Nat) (t : Nat) : St.raw { s with env := s.env.keep ks } t = if ks.contains t then s.raw t else none := KI ..
theorem B9.keep {s : St} {ks : List Nat} : ∀ {l : List (Nat × BM)}, l.all (fun p => ks.contains p.1) = true → B9 l s → B9 l { s with env := s.env.keep ks }
 | [], _, _ => trivial
 | (t, x) :: l, h, hr => by
  simp only [List.all_cons, Bool.and_eq_true] at h
  exact ⟨by rw [mi, h.1]; exact hr.1, B9.keep h.2 hr.2⟩
theorem NoB.keep {B : List Nat} {s : St} (ks : List Nat) (h : NoB B s) : NoB B { s with env := s.env.keep ks } := by
 intro u hu
 have := h u hu
 simp only [St.free] at this ⊢
 rw [mi]
 by_cases hk : ks.contains u = true
 ·rw [if_pos hk]; exact this
 ·rw [if_neg hk]
theorem Wl {B : List Nat} {s : St} (t : Nat) (x : LV) (h : NoB B s) : NoB B (s.upd t (.v x)) := by
 intro u hu
 rw [J3]
 split
 ·rfl
 ·exact h u hu
theorem Ni {B : List Nat} {s : St} (t : Nat) (x : BM) (ht : B.contains t = true) (h : NoB B s) : NoB B (s.upd t x) := by
 intro u hu
 rw [J3]
 split
 ·rename_i e; subst e; rw [ht] at hu; cases hu
 ·exact h u hu
theorem NoB.put {B : List Nat} {s s' : St} {t : Option Nat} {v : LV} (h : NoB B s) (hp : s.put t v = some s') : NoB B s' := by
 cases t with
 | none => simp only [St.put, Option.some.injEq] at hp; subst hp; exact h
 | some t =>
  simp only [St.put] at hp
  split at hp
  ·cases hp
  ·cases hp
  ·simp only [Option.some.injEq] at hp; subst hp; exact Wl t v h
theorem NoB.take {B : List Nat} {s : St} {LP : BA} (x : Opd) (h : NoB B s) : NoB B (s.take LP x).2 := by
 cases x with
 | tmp t =>
  simp only [St.take]
  split
  ·exact Wl t _ h
  ·exact h
 | con v => exact h
 | glob v => exact h
theorem NoB.setAt {B : List Nat} {s : St} {j t : Nat} {x : BM} (h : NoB B s) (hb : j = s.low.length → s.free t = false) : NoB B (s.setAt j t x) := by
 simp only [St.setAt]
 split
 ·rename_i hj
  refine Ni t x ?_ h
  cases hc : B.contains t with
  | true => rfl
  | false => have := h t hc; rw [hb hj] at this; cases this
 ·exact h
theorem aR {s : St} {j t g : Nat} {cs : List LV} (h : s.cells j t g = some cs) : j = s.low.length → s.free t = false := by
 rintro rfl
 rw [I6] at h
 simp only [St.free]
 cases hr : s.raw t with
 | none => rw [hr] at h; cases h
 | some x => rw [hr] at h; cases x with
  | box g' cs => rfl
  | _ => cases h
theorem IQ {s : St} {j t g n : Nat} {es : List (List Int × LV)} (h : s.entries j t g n = some es) : j = s.low.length → s.free t = false := by
 rintro rfl
 simp only [St.entries, St.at, if_true] at h
 simp only [St.free, St.raw]
 cases hr : s.env.get t with
 | none => rw [hr] at h; cases h
 | some x => rw [hr] at h; cases x with
  | mapo g' n es => rfl
  | _ => cases h
def za (B : List Nat) (o : AG) : Bool := match o.op with
 | .alloc _ | .box _ _ | .mkmap _ => match o.dst with
  | some t => B.contains t
  | none => true
 | .call _ _ (some vis) => vis.all B.contains
 | _ => true
theorem NoB.merge {B vis : List Nat} {e e' : Env} {low low' : List Fr} {c c' : Nat} (hv : vis.all B.contains = true) (h : NoB B ⟨e, low, c⟩) : NoB B ⟨Env.merge vis e e', low', c'⟩ := by
 intro u hu
 have hvu : vis.contains u = false := by
  cases hc : vis.contains u with
  | false => rfl
  | true =>
   have := List.all_eq_true.mp hv u (by simpa using hc)
   rw [hu] at this; cases this
 have hg : (Env.merge vis e e').get u = e.get u := by
  clear h
  induction e with
  | nil => rfl
  | cons p e ih =>
   obtain ⟨t, x⟩ := p
   simp only [Env.merge, List.filterMap_cons] at ih ⊢
   by_cases ht : t = u
   ·subst ht
    simp only [hvu, Bool.false_eq_true, if_false, Env.get, if_true]
   ·cases hc : vis.contains t with
    | false => simp only [Bool.false_eq_true, if_false, Env.get, if_neg ht]; exact ih
    | true =>
     simp only [if_true]
     cases e'.get t with
     | none => simp only [Option.map_none, Env.get, if_neg ht]; exact ih
     | some y => simp only [Option.map_some, Env.get, if_neg ht]; exact ih
 have := h u hu
 simp only [St.free, St.raw] at this ⊢
 rw [hg]; exact this
theorem NoB.evalOp {LP : BA} {C : AS} {B : List Nat} {g : Nat} {o : AG} {s s' : St} (ho : za B o = true) (h : NoB B s) (he : evalOp LP C g o.dst o.op s = some s') : NoB B s' := by
 obtain ⟨dst, op, guard, root⟩ := o
 simp only at he
 cases op with
 | move x t => cases t with
  | false => exact h.put he
  | true => exact (NoB.take x h).put he
 | alloc zs => cases dst with
  | none => cases he
  | some t => simp only [Lf.evalOp, Option.some.injEq] at he; subst he; exact Ni t _ ho h
 | box n x => cases dst with
  | none => cases he
  | some t =>
   simp only [Lf.evalOp] at he
   split at he
   ·split at he
    ·simp only [Option.some.injEq] at he; subst he; exact Ni t _ ho h
    ·cases he
   ·cases he
 | mkmap n => cases dst with
  | none => cases he
  | some t => simp only [Lf.evalOp, Option.some.injEq] at he; subst he; exact Ni t _ ho h
 | mapset n m k v =>
  simp only [Lf.evalOp] at he
  split at he
  ·split at he
   ·rename_i es hes
    split at he
    ·simp only [Option.some.injEq] at he; subst he; exact (NoB.take v h).setAt (IQ hes)
    ·simp only [Option.some.injEq] at he; subst he; exact (NoB.take v h).setAt (IQ hes)
   ·cases he
  ·cases he
 | load k p take =>
  simp only [Lf.evalOp] at he
  split at he
  ·split at he
   ·exact h.put he
   ·cases he
  ·split at he
   ·exact h.put he
   ·cases he
  ·split at he
   ·rename_i cs hcs
    split at he
    ·exact (h.setAt (aR hcs)).put he
    ·split at he
     ·exact h.put he
     ·cases he
   ·cases he
  ·cases he
 | store n p x =>
  simp only [Lf.evalOp] at he
  split at he
  ·split at he
   ·rename_i cs xs hcs _
    split at he
    ·simp only [Option.some.injEq] at he; subst he; exact (NoB.take x h).setAt (aR hcs)
    ·cases he
   ·cases he
  ·cases he
 | call f args vis => cases vis with
  | some vis =>
   simp only [za] at ho
   simp only [Lf.evalOp] at he
   repeat' split at he
   all_goals first | exact NoB.put (NoB.merge (e := s.env) (low := s.low) (c := s.ctr) ho h) he | cases he
  | none =>
   simp only [Lf.evalOp] at he
   repeat' split at he
   all_goals first | exact h.put he | cases he
 | append sz q x y =>
  simp only [Lf.evalOp] at he
  split at he
  ·exact (NoB.take x h).put he
  ·cases he
 | extract i x t =>
  simp only [Lf.evalOp] at he
  repeat' split at he
  all_goals first | exact h.put he | exact NoB.put (Wl _ _ h) he | cases he
 | lookup n m k ok z =>
  simp only [Lf.evalOp] at he
  repeat' split at he
  all_goals first | exact h.put he | cases he
 | mentry n m k z =>
  simp only [Lf.evalOp] at he
  split at he
  ·split at he
   ·rename_i es hes
    split at he
    ·exact (h.setAt (IQ hes)).put he
    ·exact (h.setAt (IQ hes)).put he
   ·cases he
  ·cases he
 | mstore n m i x =>
  simp only [Lf.evalOp] at he
  split at he
  ·split at he
   ·rename_i es hes
    split at he
    ·simp only [Option.some.injEq] at he; subst he; exact (NoB.take x h).setAt (IQ hes)
    ·cases he
   ·cases he
  ·cases he
 | bad => cases he
 | mkfn f a b => exact h.put he
 | _ =>
  simp only [Lf.evalOp] at he
  repeat' split at he
  all_goals first | exact h.put he | cases he
theorem NoB.evalOps {LP : BA} {C : AS} {B : List Nat} : ∀ {ops : List AG} {g : Nat} {s s' : St}, ops.all (za B) = true → NoB B s → evalOps LP C g ops s = some s' → NoB B s'
 | [], _, s, s', _, h, he => by simp only [Lf.evalOps, Option.some.injEq] at he; subst he; exact h
 | o :: r, g, s, s', ho, h, he => by
  simp only [List.all_cons, Bool.and_eq_true] at ho
  simp only [Lf.evalOps] at he
  split at he
  ·rename_i s1 h1
   refine NoB.evalOps ho.2 ?_ he
   simp only [An] at h1
   split at h1
   ·split at h1
    ·exact NoB.evalOp ho.1 h h1
    ·cases h1
   ·split at h1
    ·split at h1
     ·split at h1
      ·exact NoB.evalOp ho.1 h h1
      ·cases h1
     ·exact h.put h1
    ·exact h.put h1
    ·cases h1
  ·cases he
section
variable {LP : BA} {ks : List iW} {J : zR → St → Prop} {a b : Cd} {s : St}
theorem i7 {B : List Nat} {ops : List AG} {keep : List Nat} {low : List Fr} (l : List (Nat × BM)) (hl : s.low = low) (hf : NoB B s) (hB : ops.all (za B) = true) (hk : l.all (fun p => keep.contains p.1) = true)
  (h : ∃ s1, Lf.evalOps LP (om LP) s.ctr ops (s.tick ops.length) = some s1 ∧ B9 l s1 ∧ s1.low = low)
  (h' : ∀ s', B6 l s' → s'.low = low → NoB B s' → Eh LP ks .normal s' J) : Run LP ks (.ops ops keep) s J := by
 obtain ⟨s1, he, hr, hl1⟩ := h
 have hf1 : NoB B s1 := NoB.evalOps hB (show NoB B (s.tick ops.length) from hf) he
 obtain ⟨e, lw, c⟩ := s
 exact ⟨.normal, { s1 with env := s1.env.keep keep }, .ops (Ou he), h' _ (B9.keep hk hr).r hl1 (NoB.keep keep hf1)⟩
theorem ji {t : Nat} {c : Bool} (hr : s.raw t = some (.v (.d (.bool c)))) (hc : c = true) (h : Run LP ks a s J) : Run LP ks (.cond (.tmp t) a b) s J := by
 subst hc
 refine Run.condT ?_ h
 rw [Nj, Jb, hr]; rfl
theorem jw {t : Nat} {c : Bool} (hr : s.raw t = some (.v (.d (.bool c)))) (hc : c = false) (h : Run LP ks b s J) : Run LP ks (.cond (.tmp t) a b) s J := by
 subst hc
 refine Run.condF ?_ h
 rw [Nj, Jb, hr]; rfl
end
theorem Run.sub {LP : BA} {ks : List iW} {J : zR → St → Prop} {c : Cd} {s : St} {Q : zR → St → Prop} (h : Run LP [] c s Q) (h' : ∀ j s', Q j s' → Eh LP ks j s' J) : Run LP ks c s J := by
 obtain ⟨j, s', h1, h2⟩ := h
 exact ⟨j, s', h1, h' j s' h2⟩
def wC {σ ρ : Type} (E : σ → St → Prop) (Q : ρ → zR → St → Prop) (out : σ ⊕ ρ) (j : zR) (s : St) : Prop := match out with
 | .inl x => j = .normal ∧ E x s
 | .inr r => j ≠ .normal ∧ Q r j s
theorem oM {LP : BA} {ks : List iW} {c : Cd} {σ ρ : Type} {f : σ → Option (σ ⊕ ρ)} {E : σ → St → Prop} {Q : ρ → zR → St → Prop} {J : zR → St → Prop} {r : ρ} {x : σ} {s : St}
  (hs : ∀ x s out, E x s → f x = some out → Run LP [] c s (wC E Q out)) (he : E x s) (hl : Loop f x = some r) (h' : ∀ j s', Q r j s' → Eh LP ks j s' J) : Run LP ks (.loop c) s J := by
 obtain ⟨n, hn⟩ := RB.mp hl
 clear hl
 induction n generalizing x s with
 | zero => simp [turns] at hn
 | succ n ih =>
  simp only [turns] at hn
  cases ho : f x with
  | none => rw [ho] at hn; simp at hn
  | some out =>
   rw [ho] at hn
   obtain ⟨j, s', h1, h2⟩ := hs x s out he ho
   cases out with
   | inl x' =>
    obtain ⟨rfl, hx⟩ := h2
    obtain ⟨j', s'', h3, h4⟩ := ih hx hn
    exact ⟨j', s'', .loop h1 h3, h4⟩
   | inr r' =>
    obtain ⟨hj, hq⟩ := h2
    obtain rfl := Option.some.inj hn
    exact ⟨j, s', .loop_jump h1 hj, h' j s' hq⟩
theorem yh {α : Type} [zI α] {s : St} {t : Nat} {x : Sl α} (h : s.raw t = some (.v (.d (zI.enc x)))) : s.raw t = some (.v x.cool.lv) := by rw [h, Ov]
def St.merged (s : St) (vis : List Nat) (c : Nat) : St := ⟨Env.merge vis s.env (s.env.keep vis), s.low, c⟩
theorem ek (vis : List Nat) (E : Env) (t : Nat) : ∀ e : Env, (∀ u x, e.get u = some x → E.get u = some x ∨ (∃ y, E.get u = some y)) → (Env.merge vis e (E.keep vis)).get t = if vis.contains t then (match e.get t with | some _ => E.get t | none => none) else e.get t
 | [], _ => by simp [Env.merge, Env.get]
 | (u, x) :: e, h => by
  have hu : ∃ y, Env.get u E = some y := by
   rcases h u x (by simp [Env.get]) with h1 | h1
   ·exact ⟨x, h1⟩
   ·exact h1
  obtain ⟨y, hy⟩ := hu
  have ih := ek vis E t e
  by_cases hut : u = t
  ·subst hut
   cases hc : vis.contains u with
   | false => simp only [Env.merge, List.filterMap_cons, hc, Bool.false_eq_true, if_false, Env.get, if_true]
   | true => simp only [Env.merge, List.filterMap_cons, hc, if_true, KI, hy, Option.map_some, Env.get]
  ·have ih' : (Env.merge vis e (E.keep vis)).get t = if vis.contains t then (match Env.get t e with | some _ => Env.get t E | none => none) else Env.get t e := by
    apply ih
    intro u' x' hx'
    by_cases hu2 : u = u'
    ·subst hu2; exact .inr ⟨y, hy⟩
    ·exact h u' x' (by simp only [Env.get, if_neg hu2]; exact hx')
   simp only [Env.get, if_neg hut]
   rw [← ih']
   cases hc : vis.contains u with
   | false => simp only [Env.merge, List.filterMap_cons, hc, Bool.false_eq_true, if_false, Env.get, if_neg hut]
   | true => simp only [Env.merge, List.filterMap_cons, hc, if_true, KI, hy, Option.map_some, Env.get, if_neg hut]
theorem PE (s : St) (vis : List Nat) (c t : Nat) : (s.merged vis c).raw t = s.raw t := by
 simp only [St.raw, St.merged]
 rw [ek vis s.env t s.env (fun u x h => .inl h)]
 split
 ·cases s.env.get t <;> rfl
 ·rfl
theorem Qj (s : St) (vis : List Nat) (c t : Nat) : (s.merged vis c).free t = s.free t := by
 simp only [St.free, PE]
theorem Zg (s : St) (vis : List Nat) (c : Nat) : (s.merged vis c).low = s.low := rfl
section
variable (LP : BA) (C : AS)
def N5 (g : Nat) (r : List AG) (s : St) (t : Option Nat) (vis : List Nat) : Option (LV × List Fr × Nat) → Option St
 | some (v, low', c') => match low'.getLast? with
  | some fr => if low'.length = s.low.length + 1 then Gq LP C g r { env := Env.merge vis s.env fr.env, low := low'.dropLast, ctr := c' } t (some v) else none
  | none => none
 | none => none
variable {LP C} (g : Nat) (r : List AG) (s : St) (t : Option Nat) (ro : Option (Option Nat))
theorem ae (vis : List Nat) (v : LV) (c : Nat) (low2 : List Fr) (h : low2 = s.low) : N5 LP C g r s t vis (some (v, low2 ++ [⟨s.env.keep vis, none⟩], c)) = Gq LP C g r (s.merged vis c) t (some v) := by
 subst h
 simp [N5, St.merged]
theorem tY (fv : DV) (f : Nat) (a b : List DV) (fo : Opd) (args : List Opd) (vis : List Nat) (h : s.val LP fo = .d fv) (hf : fv = .fn f a b) :
  evalOps LP C g (⟨t, .call fo args (some vis), none, ro⟩ :: r) s = N5 LP C (g + 1) r s t vis (C.call f (a.map .d ++ args.map (s.val LP) ++ b.map .d) (s.low ++ [⟨s.env.keep vis, none⟩]) s.ctr) := by
 subst hf
 have hr : Au s.low.length ro none = true := by cases ro <;> rfl
 simp only [evalOps, An, zl.addr, Option.map_none, hr, if_true, evalOp, h, target]
 cases C.call f (List.map LV.d a ++ List.map (St.val LP s) args ++ List.map LV.d b) (s.low ++ [⟨s.env.keep vis, none⟩]) s.ctr with
 | none => rfl
 | some p =>
  obtain ⟨v, low', c'⟩ := p
  simp only [N5]
  cases low'.getLast? with
  | none => rfl
  | some fr =>
   simp only
   by_cases hl : low'.length = s.low.length + 1
   ·simp only [if_pos hl]; rfl
   ·simp only [if_neg hl]
theorem lq (f : Nat) (a b : List DV) (args : List Opd) (vis : List Nat) :
  evalOps LP C g (⟨t, .call (.con (.fn f a b)) args (some vis), none, ro⟩ :: r) s = N5 LP C (g + 1) r s t vis (C.call f (a.map .d ++ args.map (s.val LP) ++ b.map .d) (s.low ++ [⟨s.env.keep vis, none⟩]) s.ctr) :=
 tY g r s t ro _ f a b _ args vis rfl rfl
end
theorem lT (LP : BA) (s : St) (n : Nat) : s.val LP (.glob n) = .d (.fptr (LP.globs n) 0) := rfl
def T9 (s : St) (r : Nat × Option (Option Nat)) : Option LV := (DG s r).bind (freeze s.low.length s.env 9)
def zq (rs : List (Nat × Option (Option Nat))) (s : St) : Option LV := match rs.mapM (T9 s) with
 | some [x] => some x
 | some xs => some (LV.norm (.tup xs))
 | none => none
theorem AI {s : St} {r : Nat × Option (Option Nat)} {v : DV} (h : T9 s r = some (.d v)) : zq [r] s = some (.d v) := by
 simp [zq, h]
theorem BS {s : St} {r1 r2 : Nat × Option (Option Nat)} {v1 v2 : DV} (h1 : T9 s r1 = some (.d v1)) (h2 : T9 s r2 = some (.d v2)) : zq [r1, r2] s = some (.d (.tup [v1, v2])) := by
 simp [zq, h1, h2, LV.norm, LV.toD, AZ]
theorem Xg {s : St} {r1 r2 r3 : Nat × Option (Option Nat)} {v1 v2 v3 : DV} (h1 : T9 s r1 = some (.d v1)) (h2 : T9 s r2 = some (.d v2)) (h3 : T9 s r3 = some (.d v3)) : zq [r1, r2, r3] s = some (.d (.tup [v1, v2, v3])) := by
 simp [zq, h1, h2, h3, LV.norm, LV.toD, AZ]
theorem AK {s : St} {t : Nat} {v : DV} (h : s.raw t = some (.v (.d v))) : T9 s (t, none) = some (.d v) := by
 simp only [T9, DG, Jb, h]; rfl
theorem Ob {α : Type} [zI α] {s : St} {t : Nat} {x : Sl α} (h : s.raw t = some (.v x.lv)) : T9 s (t, none) = some (.d (zI.enc x)) := by
 simp only [T9, DG, Jb, h, Fe, Kx]; cases x <;> rfl
theorem Cj {α : Type} [TA α] {s : St} {t g n : Nat} {x : α} (h : s.raw t = some (.box g ((zI.cells x).map .d))) (hn : zI.n α = n) : T9 s (t, some (some n)) = some (.d (zI.enc x)) := by
 have hl : ((zI.cells x).map LV.d).length = n := by rw [List.length_map, Gu.len, hn]
 have hc : ((zI.cells x).map LV.d).map LV.copy = (zI.cells x).map LV.d := by rw [List.map_map]; rfl
 simp only [St.raw] at h
 simp only [T9, DG, h, hl, if_true, hc, LV.norm, LV.toD, Q2, Option.map_some, Option.bind_some, TA.agg]
 rfl
theorem HA {s : St} {t g : Nat} {v : DV} (h : s.raw t = some (.box g [.d v])) : T9 s (t, some none) = some (.d v) := by
 simp only [St.raw] at h
 simp [T9, DG, h, LV.copy, freeze]
theorem W5 {α : Type} [zI α] {s : St} {t g : Nat} {x : Sl α} (h : s.raw t = some (.box g [x.lv])) : T9 s (t, some none) = some (.d (zI.enc x)) := by
 simp only [St.raw] at h
 cases x <;> simp [T9, DG, h, LV.copy, freeze, Sl.lv, zI.enc, Sl.dv]
def FnJ (lf : NU) (low : List Fr) (v : LV) (j : zR) (s : St) : Prop := (j = .normal ∨ j = .ret) ∧ s.low = low ∧ zq lf.results s = some v
theorem ta {LP : BA} {n : Nat} {lf : NU} {args : List LV} {low : List Fr} {ctr : Nat} {v : LV} {B : List Nat} (hf : LP.funcs n = some lf) (hl : args.length = lf.nparams)
  (hB : NoB B { env := DY 0 args, low, ctr }) (h : ∀ s, (∀ t, s.raw t = (DY 0 args).get t) → s.low = low → NoB B s → Run LP [] lf.body s (FnJ lf low v)) : ∃ ctr', sO LP n args low ctr v low ctr' := by
 obtain ⟨j, s', hc, hj, hl', hr⟩ := h { env := DY 0 args, low, ctr } (fun _ => rfl) rfl hB
 refine ⟨s'.ctr, ?_⟩
 have := sO.func (jmp := j) hf hl hc hj (v := v) hr
 rwa [hl'] at this
theorem Vu (args : List LV) (low : List Fr) (ctr : Nat) (B : List Nat) : NoB B { env := DY 0 args, low, ctr } := by
 intro u _
 have main : ∀ (args : List LV) (k : Nat), St.free { env := DY k args, low, ctr } u = true := by
  intro args
  induction args with
  | nil => intro k; rfl
  | cons a args ih =>
   intro k
   simp only [DY]
   rw [qA]
   split
   ·rfl
   ·exact ih (k + 1)
 exact main args 0
def Fin (LP : BA) (n : Nat) (ds : List DV) (v : DV) : Prop := ∀ low ctr, ∃ ctr', sO LP n (ds.map .d) low ctr (.d v) low ctr'
theorem Fin.call {LP : BA} {n : Nat} {ds : List DV} {v : DV} (h : Fin LP n ds v) : ON (om LP) n ds = some (.d v) := by
 obtain ⟨c, he⟩ := h [] 0
 simp only [ON, QJ.mpr he]
 rfl
theorem Ie {LP : BA} {n : Nat} {ds : List DV} {v : DV} (h : Fin LP n ds v) : ∃ c : List Fr → Nat → Nat, ∀ low ctr, (om LP).call n (ds.map LV.d) low ctr = some (.d v, low, c low ctr) := by
 have h' : ∀ (p : List Fr × Nat), ∃ c, (om LP).call n (ds.map LV.d) p.1 p.2 = some (.d v, p.1, c) := fun p => by
  obtain ⟨c, hc⟩ := h p.1 p.2
  exact ⟨c, QJ.mpr hc⟩
 exact ⟨fun l c => (h' (l, c)).choose, fun l c => (h' (l, c)).choose_spec⟩
theorem yI {LP : BA} {n : Nat} {lf : NU} {ds : List DV} {v : DV} (B : List Nat) (hf : LP.funcs n = some lf) (hl : ds.length = lf.nparams)
  (h : ∀ low s, (∀ t, s.raw t = (DY 0 (ds.map LV.d)).get t) → s.low = low → NoB B s → Run LP [] lf.body s (FnJ lf low (.d v))) : Fin LP n ds v := by
 intro low ctr
 exact ta (B := B) hf (by simpa using hl) (Vu _ _ _ _) (h low)
def IH (low : List Fr) (j t : Nat) : Option BM := match low[j]? with
 | some fr => fr.env.get t
 | none => none
theorem i8 {low : List Fr} {j t : Nat} {x : BM} (h : IH low j t = some x) : j < low.length := by
 simp only [IH] at h
 by_cases hj : j < low.length
 ·exact hj
 ·rw [List.getElem?_eq_none (by omega)] at h; cases h
theorem HI {low : List Fr} {fr : Fr} {j t : Nat} {x : BM} (h : IH low j t = some x) : IH (low ++ [fr]) j t = some x := by
 have := i8 h
 simp only [IH] at h ⊢
 rw [List.getElem?_append_left this]; exact h
theorem SD {low : List Fr} {e : Env} {l : Option M6} {t : Nat} {x : BM} (h : Env.get t e = some x) : IH (low ++ [⟨e, l⟩]) low.length t = some x := by
 simp only [IH]
 rw [List.getElem?_append_right (Nat.le_refl _), Nat.sub_self]; exact h
theorem Ef {low : List Fr} {j t g : Nat} {cs : List LV} (h : IH low j t = some (.box g cs)) (s : St) (k : Option Nat) (off : Nat) (hl : s.low = low) : Q5 s k none (.ptr j t g off) = part k off cs := by
 subst hl
 have hj := i8 h
 have hc : s.cells j t g = some cs := by
  simp only [St.cells, St.at, if_neg (show ¬ j = s.low.length by omega)]
  simp only [IH] at h
  cases hx : s.low[j]? with
  | none => rw [hx] at h; cases h
  | some fr => rw [hx] at h; simp only at h ⊢; rw [h]; simp
 simp only [Q5, Au, if_true, hc]
theorem Vz (s : St) (k : Option Nat) (ro : Option (Option Nat)) (cs : List LV) (off : Nat) : Q5 s k ro (.fptr cs off) = part k off cs := by
 have h : Au s.low.length ro (some (.fptr cs off)) = true := by cases ro <;> rfl
 simp only [Q5, h, if_true]
theorem Be (k : Option Nat) (off g : Nat) (cs : List LV) : HG k off g (some (.box g cs)) = part k off cs := by simp only [HG, if_true]
theorem DI (x : LV) : part none 0 [x] = some x.copy := rfl
theorem Ih (f : Nat) (a b : List LV) : part none 0 [LV.fn f a b] = some (.fn f a b) := rfl
theorem pp (s : St) (t : Nat) : Env.get t s.env = s.raw t := rfl
theorem get_keep (ks : List Nat) (e : Env) (t : Nat) : Env.get t (Env.keep ks e) = if ks.contains t then Env.get t e else none := KI ..
def LL (LP : BA) (n : Nat) (args : List LV) (low : List Fr) (v : LV) : Prop := ∀ ctr, ∃ ctr', sO LP n args low ctr v low ctr'
noncomputable def TL (LP : BA) (n : Nat) (args : List LV) (low : List Fr) (ctr : Nat) : Nat := match (om LP).call n args low ctr with
 | some (_, _, c) => c
 | none => 0
theorem LL.om {LP : BA} {n : Nat} {args : List LV} {low : List Fr} {v : LV} (h : LL LP n args low v) (ctr : Nat) : (om LP).call n args low ctr = some (v, low, TL LP n args low ctr) := by
 obtain ⟨c, hc⟩ := h ctr
 have := QJ.mpr hc
 simp only [TL, this]
theorem Fin.low {LP : BA} {n : Nat} {ds : List DV} {v : DV} (h : Fin LP n ds v) (low : List Fr) : LL LP n (ds.map .d) low (.d v) := h low
theorem LL.call {LP : BA} {n : Nat} {ds : List DV} {v : DV} (h : LL LP n (ds.map .d) [] (.d v)) : ON (Lf.om LP) n ds = some (.d v) := by
 obtain ⟨c, he⟩ := h 0
 simp only [ON, QJ.mpr he]
 rfl
theorem we {LP : BA} {n : Nat} {lf : NU} {args : List LV} {low : List Fr} {v : LV} (B : List Nat) (hf : LP.funcs n = some lf) (hl : args.length = lf.nparams)
  (h : ∀ s, (∀ t, s.raw t = (DY 0 args).get t) → s.low = low → NoB B s → Run LP [] lf.body s (FnJ lf low v)) : LL LP n args low v := by
 intro ctr
 exact ta (B := B) hf hl (Vu _ _ _ _) h
def vL (LP : BA) (C : AS) (g : Nat) (r : List AG) (s : St) (t : Option Nat) (ro : Option (Option Nat)) (u : Nat) (args : List Opd) (vis : List Nat) : Option (Nat × List LV × List LV) → Option St
 | some (f, a, b) => N5 LP C (g + 1) r s t vis (C.call f (a ++ args.map (s.val LP) ++ b) (s.low ++ [⟨s.env.keep vis, none⟩]) s.ctr)
 | none => evalOps LP C g (⟨t, .call (.tmp u) args (some vis), none, ro⟩ :: r) s
theorem vx (LP : BA) (C : AS) (g : Nat) (r : List AG) (s : St) (t : Option Nat) (ro : Option (Option Nat)) (u : Nat) (args : List Opd) (vis : List Nat) (f : Nat) (a b : List LV) :
 vL LP C g r s t ro u args vis (some (f, a, b)) = N5 LP C (g + 1) r s t vis (C.call f (a ++ args.map (s.val LP) ++ b) (s.low ++ [⟨s.env.keep vis, none⟩]) s.ctr) := rfl
theorem s9 {LP : BA} {C : AS} (g : Nat) (r : List AG) (s : St) (t : Option Nat) (ro : Option (Option Nat)) (u : Nat) (args : List Opd) (vis : List Nat) :
  evalOps LP C g (⟨t, .call (.tmp u) args (some vis), none, ro⟩ :: r) s = vL LP C g r s t ro u args vis (target (s.slot u)) := by
 cases ht : target (s.slot u) with
 | none => rfl
 | some p =>
  obtain ⟨f, a, b⟩ := p
  have hr : Au s.low.length ro none = true := by cases ro <;> rfl
  have hy : ∀ j g', s.slot u ≠ .yield j g' := by intro j g' e; rw [e] at ht; cases ht
  simp only [evalOps, An, zl.addr, Option.map_none, hr, if_true, evalOp, St.val, vL]
  cases hs : s.slot u with
  | yield j g' => exact absurd hs (hy j g')
  | _ =>
   rw [hs] at ht
   simp only [ht]
   cases C.call f (a ++ List.map (s.val LP) args ++ b) (s.low ++ [⟨s.env.keep vis, none⟩]) s.ctr with
   | none => rfl
   | some p =>
    obtain ⟨v, low', c'⟩ := p
    simp only [N5]
    cases low'.getLast? with
    | none => rfl
    | some fr =>
     simp only
     by_cases hl : low'.length = s.low.length + 1
     ·simp only [if_pos hl]; rfl
     ·simp only [if_neg hl]
def rH (C : AS) (f : Nat) (a b : List DV) : Option (List DV) → Option LV
 | some ds => ON C f (a ++ ds ++ b)
 | none => none
theorem UT (C : AS) (f : Nat) (a b ds : List DV) : rH C f a b (some ds) = ON C f (a ++ ds ++ b) := rfl
theorem aA (C : AS) (f : Nat) (a b : List DV) (args : List LV) : iu C (.d (.fn f a b)) args = rH C f a b (AZ args) := by
 simp only [iu, target]
 cases AZ args with
 | none => rfl
 | some ds => simp only [Q2]; rfl
theorem Vd (f : Nat) (a b : List DV) : target (.d (.fn f a b)) = some (f, a.map .d, b.map .d) := rfl
theorem Q1 (f : Nat) (a b : List LV) : target (.fn f a b) = some (f, a, b) := rfl
theorem gz (c : LV) (f : Nat) (x y : List LV) : Dx 1 0 [.fn f x y] [c] = some [.fn f x y] := FP c rfl
theorem aV (c : LV) (f : Nat) (x y : List DV) : Dx 1 0 [.d (.fn f x y)] [c] = some [.d (.fn f x y)] := FP c rfl
theorem YA (f : Nat) (x y : List LV) : LV.known (.fn f x y) = some [.fn f x y] := rfl
theorem d5 (f : Nat) (x y : List DV) : LV.known (.d (.fn f x y)) = some [.d (.fn f x y)] := rfl
theorem V2 : LV.known (.d .nilfn) = some [.d .nilfn] := rfl
theorem Ox {LP : BA} {C : AS} (g : Nat) (r : List AG) (s : St) (n t g' off u : Nat) (f : Nat) (a b : List LV) (h : s.raw u = some (.v (.fn f a b))) :
  TF LP C g r s n t g' off (.tmp u) (some (.v (.fn f a b))) = jZ LP C g r ((Gg n off g' (some [.fn f a b]) (s.raw t)).map fun x => s.upd t x) := by
 show Ip LP C g r s n (.ptr s.low.length t g' off) (.tmp u) = _
 have ht : s.take LP (.tmp u) = (.fn f a b, s) := by
  unfold St.raw at h
  simp only [St.take, h, St.slot, LV.copy]
 simp only [Ip, ht, I6, YA]
 cases hr : s.raw t with
 | none => rfl
 | some z => cases z with
  | box g2 cs =>
   simp only [Gg]
   by_cases hg : g2 = g'
   ·subst hg
    simp only [if_true]
    by_cases hc : [LV.fn f a b].length = n ∧ off + n ≤ cs.length ∧ [LV.fn f a b].all LV.cellOk = true
    ·simp only [if_pos hc, Option.map_some, St.setAt, if_true, St.upd]
    ·simp only [if_neg hc, Option.map_none]
   ·simp only [if_neg hg]; rfl
  | _ => rfl
def fG (f : Nat) (a b : List LV) : Option (List DV) → Option (List DV) → LV
 | some x, some y => .d (.fn f x y)
 | _, _ => .fn f a b
theorem be (f : Nat) (a b : List LV) : LV.norm (.fn f a b) = fG f a b (AZ a) (AZ b) := by
 simp only [LV.norm, LV.toD, fG]
 cases AZ a <;> cases AZ b <;> rfl
theorem Rm (f : Nat) (a b : List LV) (x y : List DV) : fG f a b (some x) (some y) = .d (.fn f x y) := rfl
theorem SA (f : Nat) (a b : List LV) (y : Option (List DV)) : fG f a b none y = .fn f a b := by cases y <;> rfl
theorem Qq (f : Nat) (a b : List LV) (x : Option (List DV)) : fG f a b x none = .fn f a b := by cases x <;> rfl
theorem kx (j t g o : Nat) (r : List LV) : AZ (.ptr j t g o :: r) = none := rfl
theorem xU (f : Nat) (a b r : List LV) (h : LV.toD (.fn f a b) = none) : AZ (.fn f a b :: r) = none := by simp only [AZ, h]
theorem IY (k t f : Nat) (a b : List LV) : MS k t (.v (.fn f a b)) = .fn f a b := rfl
theorem dY (k t : Nat) (a : List LV) : MS k t (.v (.agg a)) = .agg a := rfl
theorem Zj (k t o : Nat) (a : List LV) : MS k t (.v (.fptr a o)) = .fptr a o := rfl
theorem ox (f : Nat) (a b : List LV) : Zl 1 (.fn f a b) = some [.fn f a b] := rfl
theorem mY (f : Nat) (a b : List DV) : Zl 1 (.d (.fn f a b)) = some [.d (.fn f a b)] := rfl
theorem mN (s : St) (n : Nat) : (s.tick n).ctr = s.ctr + n := rfl
theorem pV (a b : Bool) : ww false (.d (.bool a)) (.d (.bool b)) = some (.d (.bool (a == b))) := rfl
theorem pX (a b : Bool) : ww true (.d (.bool a)) (.d (.bool b)) = some (.d (.bool (a != b))) := rfl
theorem bC (a b : Nat) (l : List Nat) : (a :: l).contains b = if b = a then true else l.contains b := by
 rw [List.contains_cons]
 by_cases h : b = a
 ·subst h; simp
 ·rw [if_neg h, show (b == a) = false from by simpa using h, Bool.false_or]
theorem bN (b : Nat) : ([] : List Nat).contains b = false := rfl
theorem qo {P : St → Prop} (s : St) : (∃ s1, some s = some s1 ∧ P s1) = P s := by simp
theorem nob {B : List Nat} {s : St} (h : NoB B s) : ∀ u, B.contains u = false → s.free u = true := h
theorem mr (s : St) (u : Nat) : nU s (.tmp u) = s.raw u := rfl
theorem lZ (s : St) (v : DV) : nU s (.con v) = some (.v (.d v)) := rfl
theorem wx (x : LV) : (BM.v x).isV = true := rfl
theorem xF (g : Nat) (cs : List LV) : (BM.box g cs).isV = false := rfl
theorem wT (g n : Nat) (es : List (List Int × LV)) : (BM.mapo g n es).isV = false := rfl
theorem Bj {α : Type} [TA α] (x : α) {n : Nat} (h : zI.n α = n) : A4 (some n) 0 (zI.cells x) = some (zI.enc x) := by
 have := Gu.len x
 simp only [A4, List.drop_zero]
 rw [List.take_of_length_le (by omega), if_pos (by omega), TA.agg]
def zV (op : BinOp) (a b : Int) : Option Int := match B2 (binOp op 0 (.int .i64 a) (.int .i64 b)) with
 | some (.int n) => some n
 | _ => none
theorem Fp {op : BinOp} {a b n : Int} (h : zV op a b = some n) : lC op (.d (.int a)) (.d (.int b)) = some (.d (.int n)) := by
 unfold zV at h
 split at h
 ·rename_i m hm
  cases h
  simp only [lC, RL, hm, Option.map_some]
 ·cases h
def Qs {α : Type} [zI α] : Nat → List α → List (Nat × Nat × LV)
 | _, [] => []
 | i, a :: l => (i, zI.n α, .d (zI.enc a)) :: Qs (i + zI.n α) l
theorem kw {α : Type} [TA α] : ∀ (l : List α) (d r : List LV), r.length = l.length * zI.n α → CY (Qs d.length l) (d ++ r) = some (d ++ (l.flatMap zI.cells).map LV.d)
 | [], d, r, h => by
  simp only [List.length_nil, Nat.zero_mul, List.length_eq_zero_iff] at h
  subst h
  simp [Qs, CY]
 | a :: l, d, r, h => by
  have hl : ((zI.cells a).map LV.d).length = zI.n α := by rw [List.length_map, Gu.len]
  have hr : zI.n α ≤ r.length := by rw [h, List.length_cons, Nat.add_mul]; omega
  simp only [Qs, CY, Rh]
  rw [if_pos ⟨hl, by rw [List.length_append]; omega⟩]
  have hs : setCells (d ++ r) d.length ((zI.cells a).map LV.d) = (d ++ (zI.cells a).map LV.d) ++ r.drop (zI.n α) := by
   rw [setCells, List.take_left' rfl, hl, ← List.drop_drop, List.drop_left' rfl]
  have hd : d.length + zI.n α = (d ++ (zI.cells a).map LV.d).length := by rw [List.length_append, hl]
  rw [hs, hd, kw l (d ++ (zI.cells a).map LV.d) (r.drop (zI.n α)) (by rw [List.length_drop, h, List.length_cons, Nat.add_mul]; omega)]
  simp
theorem gq {α : Type} [Gu α] : ∀ (l : List α) (k : Nat) (v : α), l[k]? = some v → ((l.flatMap zI.cells).drop (k * zI.n α)).take (zI.n α) = zI.cells v
 | [], k, v, h => by simp at h
 | a :: l, 0, v, h => by
  simp only [List.getElem?_cons_zero, Option.some.injEq] at h
  subst h
  have := Gu.len a
  simp only [List.flatMap_cons, Nat.zero_mul, List.drop_zero]
  rw [List.take_append_of_le_length (by omega), List.take_of_length_le (by omega)]
 | a :: l, k + 1, v, h => by
  simp only [List.getElem?_cons_succ] at h
  have := Gu.len a
  rw [← gq l k v h]
  simp only [List.flatMap_cons]
  rw [List.drop_append, List.drop_of_length_le (by rw [this, Nat.add_mul]; omega), List.nil_append, this, Nat.add_mul, Nat.one_mul, Nat.add_sub_cancel]
theorem nP {α β : Type} (f : Nat → Option β) (g : α → β) (l : List α) (h : ∀ (i : Nat) (v : α), l[i]? = some v → f i = some (g v)) : (List.range l.length).mapM f = some (l.map g) := by
 have main : ∀ (k : Nat), k ≤ l.length → (List.range' (l.length - k) k).mapM f = some ((l.drop (l.length - k)).map g) := by
  intro k
  induction k with
  | zero => intro _; simp
  | succ k ih =>
   intro hk
   have hlt : l.length - (k + 1) < l.length := by omega
   rw [List.range'_succ, List.mapM_cons, h _ _ (List.getElem?_eq_getElem hlt)]
   have e : l.length - (k + 1) + 1 = l.length - k := by omega
   rw [e, ih (by omega), List.drop_eq_getElem_cons hlt, e]
   rfl
 have := main l.length (Nat.le_refl _)
 rw [Nat.sub_self] at this
 rw [List.range_eq_range']
 simpa using this
theorem H6 {α : Type} [TA α] (l : List α) {zs : List DV} {n sz : Nat} {ps : List (Nat × Nat × LV)} (hz : zs.length = zI.n α) (hp : (n, sz, ps) = (l.length, zI.n α, Qs 0 l)) : Uz (some sz) zs n ps = some (Sl.hot l).lv := by
 simp only [Prod.mk.injEq] at hp
 obtain ⟨rfl, rfl, rfl⟩ := hp
 have hr : (((List.replicate l.length zs).flatten).map LV.d).length = l.length * zI.n α := by simp [hz]
 have := kw l [] _ hr
 simp only [List.length_nil, List.nil_append] at this
 simp only [Uz, this, kA, if_true, Q2, Option.getD_some]
 rw [nP (fun i => A4 (some (zI.n α)) (i * zI.n α) (l.flatMap zI.cells)) zI.enc l]
 ·rfl
 ·intro i v hv
  simp only [A4, gq l i v hv, Gu.len, if_true, TA.agg]
structure T3 (α β γ : Type) where
 a : α
 b : β
 c : γ
instance {α β γ : Type} [zI α] [zI β] [zI γ] : zI (T3 α β γ) := ⟨1, fun x => [.tup [zI.enc x.a, zI.enc x.b, zI.enc x.c]], fun x => .tup [zI.enc x.a, zI.enc x.b, zI.enc x.c], fun _ => rfl⟩
theorem rS {α β γ : Type} [zI α] [zI β] [zI γ] (x : T3 α β γ) : sa 0 (some (.v (.d (zI.enc x)))) = some (.d (zI.enc x.a)) ∧ sa 1 (some (.v (.d (zI.enc x)))) = some (.d (zI.enc x.b)) ∧ sa 2 (some (.v (.d (zI.enc x)))) = some (.d (zI.enc x.c)) := ⟨rfl, rfl, rfl⟩
def Mp.get {n : Nat} {α : Type} (m : Mp n α) (k : List Int) : Option α := match m with
 | .nil => none
 | .mk es => (AN k es 0).map (·.2)
theorem OO {α β : Type} (f : α → β) (k : List Int) : ∀ (es : List (List Int × α)) (i : Nat), AN k (es.map fun p => (p.1, f p.2)) i = (AN k es i).map fun p => (p.1, f p.2)
 | [], _ => rfl
 | (k', v) :: es, i => by
  simp only [List.map_cons, AN]
  by_cases h : k' = k
  ·simp [h]
  ·simp only [if_neg h]; exact OO f k es (i + 1)
theorem Ta {α : Type} [Bm α] {n : Nat} (x : α) (hn : zI.n α = n) (h1 : n ≠ 1) : LV.key n (.d (zI.enc x)) = some (Bm.key x) := by
 have hl := Gu.len x
 rw [Bm.hkey, List.length_map] at hl
 have hi : ∀ l : List Int, DV.ints (l.map .int) = some l := by
  intro l; induction l with
  | nil => rfl
  | cons a l ih => simp [DV.ints, ih]
 rw [TA.agg, Bm.hkey]
 simp only [LV.key, hi]
 rw [if_pos ⟨by omega, h1⟩]
theorem Zp {α : Type} [Bm α] (x : α) : LV.aggKey (.d (zI.enc x)) = some (Bm.key x) := by
 have hi : ∀ l : List Int, DV.ints (l.map .int) = some l := by
  intro l; induction l with
  | nil => rfl
  | cons a l ih => simp [DV.ints, ih]
 rw [TA.agg, Bm.hkey]
 simp only [LV.aggKey, hi]
theorem JS {α : Type} [Bm α] (x y : α) (n : Nat) (hn : zI.n α = n) : vZ false n (.d (zI.enc x)) (.d (zI.enc y)) = some (.d (.bool (decide (Bm.key x = Bm.key y)))) := by
 have hx := Gu.len x
 have hy := Gu.len y
 rw [Bm.hkey, List.length_map] at hx hy
 simp [vZ, Zp, hx, hy, hn]
theorem Jp {α : Type} [Bm α] (x y : α) (n : Nat) (hn : zI.n α = n) : vZ true n (.d (zI.enc x)) (.d (zI.enc y)) = some (.d (.bool (!decide (Bm.key x = Bm.key y)))) := by
 have hx := Gu.len x
 have hy := Gu.len y
 rw [Bm.hkey, List.length_map] at hx hy
 simp [vZ, Zp, hx, hy, hn]
theorem pU {n : Nat} {α : Type} [zI α] (m : Mp n α) (k : LV) (key : List Int) (z : DV) (hk : k.key n = some key) : RF n false z (.d (zI.enc m)) k = some (.d (((m.get key).map zI.enc).getD z)) := by
 cases m with
 | nil => simp only [RF, hk, zI.enc, Mp.dv]; rfl
 | mk es =>
  simp only [RF, hk, zI.enc, Mp.dv, if_true, Mp.get, OO]
  cases AN key es 0 <;> rfl
theorem bw {n : Nat} {α κ : Type} [zI α] [Bm κ] (s : St) (ro : Option (Option Nat)) (m : Mp n α) (k : κ) (z : α) (zd : DV) (hn : zI.n κ = n) (h1 : n ≠ 1) (hz : zI.enc z = zd) : sM s n false zd ro (.d (zI.enc m)) (.d (zI.enc k)) = some (.d (zI.enc ((m.get (Bm.key k)).getD z))) := by
 have e := pU m (.d (zI.enc k)) (Bm.key k) zd (Ta k hn h1)
 have hr : Au s.low.length ro (some (.d (zI.enc m))) = true := Xy _ _ _
 simp only [sM, hr, if_true]
 rw [e, ← hz]
 cases m.get (Bm.key k) <;> rfl
theorem V3 (a b : Int) : vMm false [.d (.int a), .d (.int b)] = some (.d (.int (min a b))) := by
 simp only [vMm, minmax, QY, RL, List.foldl_cons, List.foldl_nil, Option.map_some, Bool.false_eq_true, if_false, Option.some.injEq, LV.d.injEq, DV.int.injEq]
 split <;> omega
theorem vR (a b : Int) : vMm true [.d (.int a), .d (.int b)] = some (.d (.int (max a b))) := by
 simp only [vMm, minmax, QY, RL, List.foldl_cons, List.foldl_nil, Option.map_some, if_true, Option.some.injEq, LV.d.injEq, DV.int.injEq]
 split <;> omega
theorem yB (a : Int) : zz .neg (.d (.int a)) = some (.d (.int (W (0 - a)))) := rfl
section
variable {n : Nat} {α : Type} {x : Ar n α} {i : Int} {v : α}
theorem cG (h : x.ix i = some v) : 0 ≤ i ∧ i.toNat < n := by
 unfold Ar.ix at h
 split at h
 ·rename_i hi
  obtain ⟨hl, _⟩ := List.getElem?_eq_some_iff.mp h
  exact ⟨hi, x.h ▸ hl⟩
 ·cases h
theorem EG (h : x.ix i = some v) (sz j t g o : Nat) : We sz n (.ptr j t g o) (.d (.int i)) = some (.ptr j t g (o + i.toNat * sz)) := by
 obtain ⟨h1, h2⟩ := cG h
 simp [We, F9, h1, h2, JL]
theorem uA (h : x.ix i = some v) : x.l[i.toNat]? = some v := by
 unfold Ar.ix at h
 split at h
 ·exact h
 ·cases h
variable [Gu α]
theorem lN : ∀ (l : List α) (k : Nat) (v : α), l[k]? = some v → ((l.flatMap zI.cells).drop (k * zI.n α)).take (zI.n α) = zI.cells v
 | [], k, v, h => by simp at h
 | a :: l, 0, v, h => by
  simp only [List.getElem?_cons_zero, Option.some.injEq] at h
  subst h
  have := Gu.len a
  simp only [List.flatMap_cons, Nat.zero_mul, List.drop_zero]
  rw [List.take_append_of_le_length (by omega), List.take_of_length_le (by omega)]
 | a :: l, k + 1, v, h => by
  simp only [List.getElem?_cons_succ] at h
  have := Gu.len a
  rw [← lN l k v h]
  simp only [List.flatMap_cons]
  rw [List.drop_append, List.drop_of_length_le (by rw [this, Nat.add_mul]; omega), List.nil_append, this, Nat.add_mul, Nat.one_mul, Nat.add_sub_cancel]
theorem jr (h : x.ix i = some v) : ((zI.cells x).drop (i.toNat * zI.n α)).take (zI.n α) = zI.cells v := lN x.l i.toNat v (uA h)
theorem D3 (h : x.ix i = some v) (h1 : zI.n α = 1) (hc : zI.cells v = [zI.enc v]) : A4 none (0 + i.toNat * 1) (zI.cells x) = some (zI.enc v) := by
 have := jr h
 rw [h1, hc] at this
 simp only [A4, Nat.zero_add]
 have h2 : ((zI.cells x).drop (i.toNat * 1))[0]? = some (zI.enc v) := by
  have h3 : (((zI.cells x).drop (i.toNat * 1)).take 1)[0]? = some (zI.enc v) := by rw [this]; rfl
  rwa [List.getElem?_take_of_lt (by omega)] at h3
 rw [List.getElem?_drop] at h2
 simpa using h2
theorem lK {α : Type} [TA α] {x : Ar n α} {v : α} (h : x.ix i = some v) {sz : Nat} (hz : zI.n α = sz) : A4 (some sz) (0 + i.toNat * sz) (zI.cells x) = some (zI.enc v) := by
 subst hz
 have := jr h
 simp only [A4, Nat.zero_add, this, Gu.len, if_true, TA.agg]
theorem wd (h : x.ix i = some v) (h1 : zI.n α = 1) (hc : zI.cells v = [zI.enc v]) : UA none 1 n (.d (zI.enc x)) (.d (.int i)) = some (.d (zI.enc v)) := by
 obtain ⟨h2, h3⟩ := cG h
 have e := D3 h h1 hc
 rw [Nat.zero_add] at e
 simp only [UA, F9, h2, if_true, h3, PD, e]
 rfl
theorem wH {α : Type} [TA α] {x : Ar n α} {v : α} (h : x.ix i = some v) {sz : Nat} (hz : zI.n α = sz) : UA (some sz) sz n (.d (zI.enc x)) (.d (.int i)) = some (.d (zI.enc v)) := by
 obtain ⟨h2, h3⟩ := cG h
 have e := lK h hz
 rw [Nat.zero_add] at e
 simp only [UA, F9, h2, if_true, h3, PD, e]
 rfl
end
theorem uR {n : Nat} {x : Ar n Int} {i v : Int} (h : x.ix i = some v) (y : Int) : Dx 1 (0 + i.toNat * 1) [.d (.int y)] ((zI.cells x).map LV.d) = some ((zI.cells (x.put i y)).map LV.d) := by
 obtain ⟨h1, h2⟩ := cG h
 have hl : ((zI.cells x).map LV.d).length = n := by rw [List.length_map, Gu.len]; exact Nat.mul_one n
 have hc : zI.cells x = x.l.map DV.int := SG x.l
 have hc2 : zI.cells (x.put i y) = (x.l.set i.toNat y).map DV.int := SG _
 simp only [Dx, hl, List.length_cons, List.length_nil, Nat.zero_add, Nat.mul_one]
 rw [if_pos ⟨trivial, by omega, rfl⟩, hc, hc2, List.map_set, List.map_set]
 congr 1
 have hlt : i.toNat < (List.map LV.d (List.map DV.int x.l)).length := by simp [x.h, h2]
 rw [setCells, List.set_eq_take_append_cons_drop, if_pos hlt]
 simp
theorem TC {LP : BA} {C : AS} {α : Type} [zI α] (g : Nat) (r : List AG) (s : St) (n t g' off u : Nat) (x : Sl α) (h : s.raw u = some (.v x.lv)) (hut : (s.upd u (.v x.spent.lv)).raw t = s.raw t) :
  TF LP C g r s n t g' off (.tmp u) (some (.v x.lv)) = jZ LP C g r ((Gg n off g' (some [x.lv]) (s.raw t)).map fun b => (s.upd u (.v x.spent.lv)).upd t b) := by
 cases x with
 | hot xs =>
  show jZ LP C g r (Option.map _ (Gg n off g' (some [(Sl.hot xs).lv]) (if u = t then _ else s.raw t))) = _
  rw [Ag] at hut
  by_cases hu : u = t
  ·subst hu
   rw [if_pos rfl] at hut ⊢
   rw [← hut]; rfl
  ·rw [if_neg hu]; rfl
 | nil =>
  rw [show (Sl.nil : Sl α).spent = Sl.nil from rfl, EI s u _ h]; rfl
 | cold xs =>
  rw [show (Sl.cold xs).spent = Sl.cold xs from rfl, EI s u _ h]; rfl
 | full xs =>
  rw [show (Sl.full xs).spent = Sl.full xs from rfl, EI s u _ h]
  have ht : s.take LP (.tmp u) = ((Sl.full xs).lv, s) := by
   unfold St.raw at h
   simp only [St.take, h, Sl.lv, St.slot, LV.copy]
  show Ip LP C g r s n (.ptr s.low.length t g' off) (.tmp u) = _
  simp only [Ip, ht, I6, Ve]
  cases hr : s.raw t with
  | none => rfl
  | some z => cases z with
   | box g2 cs =>
    simp only [Gg]
    by_cases hg : g2 = g'
    ·subst hg
     simp only [if_true]
     by_cases hc : [(Sl.full xs).lv].length = n ∧ off + n ≤ cs.length ∧ [(Sl.full xs).lv].all LV.cellOk = true
     ·simp only [if_pos hc, Option.map_some, St.setAt, if_true, St.upd]
     ·simp only [if_neg hc, Option.map_none]
    ·simp only [if_neg hg]; rfl
   | _ => rfl
theorem vq {α : Type} [zI α] (x : Sl α) (g : Nat) : HG none 0 g (some (.box g [x.lv])) = some x.spent.lv := by cases x <;> simp [HG, part, LV.copy, Sl.lv, Sl.spent]
class F6 (α : Type) extends Gu α where
 elv : α → LV
 coolE : α → α
 hd : ∀ x, (elv x).toD = some (zI.enc x)
 hc : ∀ x, (elv x).cool = elv (coolE x)
 hcp : ∀ x, (elv x).copy = elv (coolE x)
 he : ∀ x, zI.enc (coolE x) = zI.enc x
 hf : ∀ k env d x, freeze k env (d + 1) (elv x) = some (.d (zI.enc x))
instance {α : Type} [zI α] : F6 (Sl α) := ⟨Sl.lv, Sl.spent, fun x => te x, fun x => by cases x <;> rfl, fun x => by cases x <;> rfl, fun x => by cases x <;> rfl, fun _ _ _ x => by cases x <;> rfl⟩
instance : F6 Int := ⟨fun x => .d (.int x), id, fun _ => rfl, fun _ => rfl, fun _ => rfl, fun _ => rfl, fun _ _ _ _ => rfl⟩
instance : F6 Bool := ⟨fun x => .d (.bool x), id, fun _ => rfl, fun _ => rfl, fun _ => rfl, fun _ => rfl, fun _ _ _ _ => rfl⟩
section
variable {α : Type}
def Ei (es : List (List Int × α)) (k : List Int) (v : α) : List (List Int × α) := match AN k es 0 with
 | some (i, _) => es.set i (k, v)
 | none => es ++ [(k, v)]
def NY (z : α) (es : List (List Int × α)) (k : List Int) : α := match AN k es 0 with
 | some (_, v) => v
 | none => z
def Gv (es : List (List Int × α)) (k : List Int) : Int := match AN k es 0 with
 | some (i, _) => i
 | none => es.length
def FA (z : α) (c : α → α) (es : List (List Int × α)) (k : List Int) : List (List Int × α) := match AN k es 0 with
 | some (i, v) => es.set i (k, c v)
 | none => es ++ [(k, z)]
theorem MW (k : List Int) : ∀ (es : List (List Int × α)) (b i : Nat) (v : α), AN k es b = some (i, v) → b ≤ i ∧ i < b + es.length ∧ es[i - b]? = some (k, v)
 | [], b, i, v, h => by simp [AN] at h
 | (k', x) :: es, b, i, v, h => by
  simp only [AN] at h
  by_cases hk : k' = k
  ·rw [if_pos hk] at h
   simp only [Option.some.injEq, Prod.mk.injEq] at h
   obtain ⟨rfl, rfl⟩ := h
   simp [hk]
  ·rw [if_neg hk] at h
   obtain ⟨h1, h2, h3⟩ := MW k es (b + 1) i v h
   refine ⟨by omega, by simp only [List.length_cons]; omega, ?_⟩
   rw [show i - b = (i - (b + 1)) + 1 by omega, List.getElem?_cons_succ]; exact h3
variable [F6 α]
def Dj (es : List (List Int × α)) : List (List Int × LV) := es.map fun p => (p.1, F6.elv p.2)
theorem dH (k : List Int) (es : List (List Int × α)) : AN k (Dj es) 0 = (AN k es 0).map fun p => (p.1, F6.elv p.2) := OO F6.elv k es 0
theorem tQ (es : List (List Int × α)) (k : List Int) (v : α) : (match AN k (Dj es) 0 with
  | some (i, _) => (Dj es).set i (k, F6.elv v)
  | none => Dj es ++ [(k, F6.elv v)]) = Dj (Ei es k v) := by
 rw [dH]
 simp only [Ei]
 cases AN k es 0 with
 | none => simp [Dj]
 | some p => simp [Dj, List.map_set]
theorem Qa (s : St) (t g n : Nat) (es : List (List Int × LV)) (h : s.raw t = some (.mapo g n es)) : s.entries s.low.length t g n = some es := by
 simp only [St.raw] at h
 simp [St.entries, St.at, h]
theorem Q9 (s : St) (t : Nat) (x : BM) : s.setAt s.low.length t x = s.upd t x := by simp [St.setAt, St.upd]
variable {LP : BA} {C : AS}
def iS (LP : BA) (s : St) (x : Opd) (v : LV) (s' : St) : Prop := s.take LP x = (v, s')
theorem jI {s : St} {x : Opd} {v : DV} (h : nU s x = some (.v (.d v))) : iS LP s x (.d v) s := by
 cases x with
 | con w => simp only [nU, Option.some.injEq, BM.v.injEq, LV.d.injEq] at h; subst h; rfl
 | glob n => simp [nU] at h
 | tmp u => simp only [nU, St.raw] at h; simp only [iS, St.take, h, St.slot, LV.copy]
theorem VW {β : Type} [zI β] {s : St} {u : Nat} {x : Sl β} (h : s.raw u = some (.v x.lv)) : iS LP s (.tmp u) x.lv (s.upd u (.v x.spent.lv)) := by
 have hs : s.slot u = x.spent.lv := by rw [IG, h]; exact Kx x _ _
 simp only [iS, St.take]
 have h' := h
 simp only [St.raw] at h
 cases x with
 | hot xs => rw [h]; rfl
 | nil => rw [show (Sl.nil : Sl β).spent = Sl.nil from rfl, EI s u _ h', h]; simp only [hs]; rfl
 | cold xs => rw [show (Sl.cold xs).spent = Sl.cold xs from rfl, EI s u _ h', h]; simp only [hs]; rfl
 | full xs => rw [show (Sl.full xs).spent = Sl.full xs from rfl, EI s u _ h', h]; simp only [hs]; rfl
theorem RH (g : Nat) (r : List AG) (s s1 : St) (tt : Option Nat) (ro : Option (Option Nat)) (n t gm : Nat) (m k v : Opd) (key : List Int) (es : List (List Int × α)) (a : α)
  (hm : s.val LP m = .mref s.low.length t gm) (hr : Au s.low.length ro (some (.mref s.low.length t gm)) = true) (hk : (s.val LP k).key n = some key) (hv : iS LP s v (F6.elv a) s1) (hl : s1.low = s.low) (he : s1.raw t = some (.mapo gm n (Dj es))) :
  evalOps LP C g (⟨tt, .mapset n m k v, none, ro⟩ :: r) s = evalOps LP C (g + 1) r (s1.upd t (.mapo gm n (Dj (Ei es key a)))) := by
 have h1 : s1.entries s.low.length t gm n = some (Dj es) := by rw [← hl]; exact Qa s1 t gm n _ he
 have h2 : ∀ x, s1.setAt s.low.length t x = s1.upd t x := fun x => by rw [← hl]; exact Q9 s1 t x
 simp only [evalOps, An, zl.addr, Option.map_some, hm, hr, if_true, evalOp, hk]
 unfold iS at hv
 simp only [hv, h1, h2]
 rw [← tQ]
 cases AN key (Dj es) 0 with
 | none => rfl
 | some p => obtain ⟨i, x⟩ := p; rfl
theorem Rl (g : Nat) (r : List AG) (s : St) (u : Nat) (ro : Option (Option Nat)) (n t gm : Nat) (m k : Opd) (zd : DV) (key : List Int) (es : List (List Int × α)) (z : α)
  (hm : s.val LP m = .mref s.low.length t gm) (hr : Au s.low.length ro (some (.mref s.low.length t gm)) = true) (hk : (s.val LP k).key n = some key) (he : s.raw t = some (.mapo gm n (Dj es))) (hz : F6.elv z = .d zd) (hu : s.free u = true) (hut : u ≠ t) :
  evalOps LP C g (⟨some u, .mentry n m k zd, none, ro⟩ :: r) s = evalOps LP C (g + 1) r ((s.upd t (.mapo gm n (Dj (FA z F6.coolE es key)))).upd u (.v (.tup [F6.elv (NY z es key), .d (.int (Gv es key))]))) := by
 have h1 : s.entries s.low.length t gm n = some (Dj es) := Qa s t gm n _ he
 have h2 : ∀ x, s.setAt s.low.length t x = s.upd t x := fun x => Q9 s t x
 have hf : ∀ x, (s.upd t x).free u = true := fun x => by rw [J3, if_neg (Ne.symm hut)]; exact hu
 have hp : ∀ (x : BM) (y : LV), (s.upd t x).put (some u) y = some ((s.upd t x).upd u (.v y)) := by
  intro x y
  have := hf x
  simp only [St.put, St.free, St.raw] at this ⊢
  cases hx : (s.upd t x).env.get u with
  | none => rfl
  | some w => rw [hx] at this; cases w <;> simp_all [BM.isV, St.upd]
 simp only [evalOps, An, zl.addr, Option.map_some, hm, hr, if_true, evalOp, hk, h1, h2, dH, NY, Gv, FA]
 cases AN key es 0 with
 | none =>
  simp only [Option.map_none, hp, ← hz]
  congr 3
  ·simp [Dj]
  ·simp [Dj]
 | some p =>
  obtain ⟨i, x⟩ := p
  simp only [Option.map_some, hp, F6.hc]
  congr 3
  simp [Dj, List.map_set]
theorem SE (g : Nat) (r : List AG) (s s1 : St) (tt : Option Nat) (ro : Option (Option Nat)) (n t gm : Nat) (m i v : Opd) (key : List Int) (es : List (List Int × α)) (z a : α)
  (hm : s.val LP m = .mref s.low.length t gm) (hr : Au s.low.length ro (some (.mref s.low.length t gm)) = true) (hi : s.val LP i = .d (.int (Gv es key))) (hv : iS LP s v (F6.elv a) s1) (hl : s1.low = s.low) (he : s1.raw t = some (.mapo gm n (Dj (FA z F6.coolE es key)))) :
  evalOps LP C g (⟨tt, .mstore n m i v, none, ro⟩ :: r) s = evalOps LP C (g + 1) r (s1.upd t (.mapo gm n (Dj (Ei es key a)))) := by
 have h1 : s1.entries s.low.length t gm n = some (Dj (FA z F6.coolE es key)) := by rw [← hl]; exact Qa s1 t gm n _ he
 have h2 : ∀ x, s1.setAt s.low.length t x = s1.upd t x := fun x => by rw [← hl]; exact Q9 s1 t x
 have h3 : F9 (.d (.int (Gv es key))) = some (Gv es key).toNat := by
  apply Zs
  simp only [Gv]; cases AN key es 0 with
  | none => simp
  | some p => simp
 simp only [evalOps, An, zl.addr, Option.map_some, hm, hr, if_true, evalOp, hi, h3]
 unfold iS at hv
 simp only [hv, h1, h2]
 cases hg : AN key es 0 with
 | none =>
  have e1 : (Gv es key).toNat = es.length := by simp [Gv, hg]
  have e2 : FA z F6.coolE es key = es ++ [(key, z)] := by simp [FA, hg]
  have e3 : Ei es key a = es ++ [(key, a)] := by simp [Ei, hg]
  rw [e1, e2, e3]
  have e4 : (Dj (es ++ [(key, z)]))[es.length]? = some (key, F6.elv z) := by simp [Dj]
  rw [e4]
  simp only
  congr 3
  simp [Dj]
 | some p =>
  obtain ⟨j, x⟩ := p
  obtain ⟨_, hj, hjx⟩ := MW key es 0 j x hg
  have e1 : (Gv es key).toNat = j := by simp [Gv, hg]
  have e2 : FA z F6.coolE es key = es.set j (key, F6.coolE x) := by simp [FA, hg]
  have e3 : Ei es key a = es.set j (key, a) := by simp [Ei, hg]
  rw [e1, e2, e3]
  have e4 : (Dj (es.set j (key, F6.coolE x)))[j]? = some (key, F6.elv (F6.coolE x)) := by
   simp only [Dj, List.getElem?_map]
   rw [List.getElem?_set_self (by omega)]; rfl
  rw [e4]
  simp only
  congr 3
  simp [Dj, List.map_set, List.set_set]
theorem Wj (g : Nat) (r : List AG) (s : St) (tt : Option Nat) (ro : Option (Option Nat)) (n t gm : Nat) (m k v : Opd) (key : List Int) (es : List (List Int × α)) (a : α) (vd : DV) (hav : F6.elv a = .d vd)
  (hm : s.val LP m = .mref s.low.length t gm) (hr : Au s.low.length ro (some (.mref s.low.length t gm)) = true) (hk : (s.val LP k).key n = some key) (hv : nU s v = some (.v (.d vd))) (he : s.raw t = some (.mapo gm n (Dj es))) :
  evalOps LP C g (⟨tt, .mapset n m k v, none, ro⟩ :: r) s = evalOps LP C (g + 1) r (s.upd t (.mapo gm n (Dj (Ei es key a)))) :=
 RH g r s s tt ro n t gm m k v key es a hm hr hk (by rw [hav]; exact jI hv) rfl he
theorem vG (g : Nat) (r : List AG) (s : St) (tt : Option Nat) (ro : Option (Option Nat)) (n t gm : Nat) (m i v : Opd) (key : List Int) (es : List (List Int × α)) (z a : α) (vd : DV) (hav : F6.elv a = .d vd)
  (hm : s.val LP m = .mref s.low.length t gm) (hr : Au s.low.length ro (some (.mref s.low.length t gm)) = true) (hi : s.val LP i = .d (.int (Gv es key))) (hv : nU s v = some (.v (.d vd))) (he : s.raw t = some (.mapo gm n (Dj (FA z F6.coolE es key)))) :
  evalOps LP C g (⟨tt, .mstore n m i v, none, ro⟩ :: r) s = evalOps LP C (g + 1) r (s.upd t (.mapo gm n (Dj (Ei es key a)))) :=
 SE g r s s tt ro n t gm m i v key es z a hm hr hi (by rw [hav]; exact jI hv) rfl he
theorem bS (g : Nat) (r : List AG) (s : St) (d u : Nat) (ro : Option (Option Nat)) (a : α) (y : LV) (hu : s.raw u = some (.v (.tup [F6.elv a, y]))) (hd : s.free d = true) (hdu : d ≠ u) :
  evalOps LP C g (⟨some d, .extract 0 (.tmp u) true, none, ro⟩ :: r) s = evalOps LP C (g + 1) r ((s.upd u (.v (.tup [F6.elv (F6.coolE a), y]))).upd d (.v (F6.elv a))) := by
 have hr : Au s.low.length ro none = true := by cases ro <;> rfl
 have hput : ∀ (s2 : St) (v : LV), s2.free d = true → s2.put (some d) v = some (s2.upd d (.v v)) := by
  intro s2 v h
  simp only [St.put, St.free, St.raw] at h ⊢
  cases hx : s2.env.get d with
  | none => rfl
  | some w => rw [hx] at h; cases w <;> simp_all [BM.isV, St.upd]
 by_cases hh : ∃ z xs, F6.elv a = .hot z xs
 ·obtain ⟨z, xs, hx⟩ := hh
  have hc := F6.hc a
  rw [hx] at hc hu
  have hf : (s.upd u (.v (.tup [F6.elv (F6.coolE a), y]))).free d = true := by rw [J3, if_neg (Ne.symm hdu)]; exact hd
  have hp := hput _ (.hot z xs) hf
  have hu' := hu
  simp only [St.raw] at hu
  simp only [evalOps, An, zl.addr, Option.map_none, hr, if_true, evalOp, hu, List.getElem?_cons_zero, List.set_cons_zero]
  rw [← hc] at hp ⊢
  rw [hx]
  have hp' : ({ s with env := s.env.set u (.v (.tup [.d (.slice z xs), y])) } : St).put (some d) (.hot z xs) = some ((s.upd u (.v (.tup [LV.cool (.hot z xs), y]))).upd d (.v (.hot z xs))) := hp
  rw [hp']
 ·have hcp : (F6.elv a).copy = F6.elv a := by
   cases ha : F6.elv a with
   | hot z xs => exact absurd ⟨z, xs, ha⟩ hh
   | tup cs => have h2 := F6.hcp a; rw [ha] at h2; have h3 := F6.hc a; rw [ha] at h3; rw [← h3] at h2; exact h2
   | _ => rfl
  have he : F6.elv (F6.coolE a) = F6.elv a := by rw [← F6.hcp]; exact hcp
  have hp := hput s (F6.elv a) hd
  rw [he, EI s u _ hu]
  simp only [St.raw] at hu
  simp only [evalOps, An, zl.addr, Option.map_none, hr, if_true, evalOp, hu]
  simp only [List.getElem?_cons_zero]
  cases ha : F6.elv a with
  | hot z xs => exact absurd ⟨z, xs, ha⟩ hh
  | _ => rw [ha] at hcp hp; simp only [hcp, hp]
theorem RO (g : Nat) (r : List AG) (s : St) (d : Option Nat) (u : Nat) (ro : Option (Option Nat)) (x : LV) (y : DV) (hu : s.raw u = some (.v (.tup [x, .d y]))) :
  evalOps LP C g (⟨d, .extract 1 (.tmp u) true, none, ro⟩ :: r) s = Gq LP C (g + 1) r s d (some (.d y)) := by
 have hr : Au s.low.length ro none = true := by cases ro <;> rfl
 simp only [St.raw] at hu
 simp only [evalOps, An, zl.addr, Option.map_none, hr, if_true, evalOp, hu, List.getElem?_cons_succ, List.getElem?_cons_zero, LV.copy, Gq]
 cases s.put d (.d y) <;> rfl
theorem lM {β : Type} [zI β] (x : Sl β) : F6.elv x = x.lv := rfl
theorem lG {β : Type} [zI β] (x : Sl β) : F6.coolE x = x.spent := rfl
theorem qF (x : Int) : F6.elv x = .d (.int x) := rfl
theorem iK (x : Int) : F6.coolE x = x := rfl
theorem ln (x : Bool) : F6.elv x = .d (.bool x) := rfl
theorem Zx (x : Bool) : F6.coolE x = x := rfl
theorem On : Dj ([] : List (List Int × α)) = [] := rfl
theorem mR (k : Nat) (env : Env) (d : Nat) (v : DV) : freeze k env (d + 1) (.d v) = some (.d v) := rfl
theorem aY (k : Nat) (env : Env) (d tm gm n : Nat) (es : List (List Int × α)) (h : env.get tm = some (.mapo gm n (Dj es))) : freeze k env (d + 2) (.mref k tm gm) = some (.d (.fmap n (es.map fun p => (p.1, zI.enc p.2)))) := by
 have hm : ∀ es : List (List Int × α), (Dj es).mapM (fun p => ((freeze k env (d + 1) p.2).bind LV.toD).map fun v => (p.1, v)) = some (es.map fun p => (p.1, zI.enc p.2)) := by
  intro es
  induction es with
  | nil => rfl
  | cons p es ih =>
   simp only [Dj] at ih
   simp only [Dj, List.map_cons, List.mapM_cons, F6.hf, Option.bind_some, LV.toD, Option.map_some, ih]
   rfl
 show (if k = k then match env.get tm with
   | some (.mapo g' n es) => if g' = gm then (es.mapM fun p => ((freeze k env (d + 1) p.2).bind LV.toD).map fun v => (p.1, v)).map fun es => LV.d (.fmap n es) else none
   | _ => none
  else some (.mref k tm gm)) = _
 simp only [if_true, h, hm, Option.map_some]
theorem gQ {β : Type} [zI β] (g : Nat) (r : List AG) (s : St) (tt : Option Nat) (ro : Option (Option Nat)) (n t gm u : Nat) (m i : Opd) (key : List Int) (es : List (List Int × Sl β)) (z a : Sl β)
  (hm : s.val LP m = .mref s.low.length t gm) (hr : Au s.low.length ro (some (.mref s.low.length t gm)) = true) (hi : s.val LP i = .d (.int (Gv es key))) (hv : s.raw u = some (.v a.lv)) (hut : u ≠ t) (he : s.raw t = some (.mapo gm n (Dj (FA z Sl.spent es key)))) :
  evalOps LP C g (⟨tt, .mstore n m i (.tmp u), none, ro⟩ :: r) s = evalOps LP C (g + 1) r ((s.upd u (.v a.spent.lv)).upd t (.mapo gm n (Dj (Ei es key a)))) :=
 SE g r s _ tt ro n t gm m i (.tmp u) key es z a hm hr hi (VW hv) rfl (by rw [Ag, if_neg hut]; exact he)
theorem uE {β : Type} [zI β] (g : Nat) (r : List AG) (s : St) (tt : Option Nat) (ro : Option (Option Nat)) (n t gm u : Nat) (m k : Opd) (key : List Int) (es : List (List Int × Sl β)) (a : Sl β)
  (hm : s.val LP m = .mref s.low.length t gm) (hr : Au s.low.length ro (some (.mref s.low.length t gm)) = true) (hk : (s.val LP k).key n = some key) (hv : s.raw u = some (.v a.lv)) (hut : u ≠ t) (he : s.raw t = some (.mapo gm n (Dj es))) :
  evalOps LP C g (⟨tt, .mapset n m k (.tmp u), none, ro⟩ :: r) s = evalOps LP C (g + 1) r ((s.upd u (.v a.spent.lv)).upd t (.mapo gm n (Dj (Ei es key a)))) :=
 RH g r s _ tt ro n t gm m k (.tmp u) key es a hm hr hk (VW hv) rfl (by rw [Ag, if_neg hut]; exact he)
end
theorem yN (k : Nat) (env : Env) (d : Nat) (v : DV) : freeze k env (d + 1) (.d v) = some (.d v) := rfl
def yG (f : Nat) : Option (List LV) → Option (List LV) → Option LV
 | some a, some b => some (LV.norm (.fn f a b))
 | _, _ => none
theorem xC (k : Nat) (env : Env) (d f : Nat) (a b : List LV) : freeze k env (d + 1) (.fn f a b) = yG f (a.mapM (freeze k env d)) (b.mapM (freeze k env d)) := by
 simp only [freeze, yG]; cases a.mapM (freeze k env d) <;> cases b.mapM (freeze k env d) <;> rfl
theorem fp (f : Nat) (a b : List LV) : yG f (some a) (some b) = some (LV.norm (.fn f a b)) := rfl
def fzP (off : Nat) : Option (List LV) → Option LV
 | some cs => some (LV.norm (.fptr cs off))
 | none => none
theorem fb {k t g : Nat} {env : Env} {cs : List LV} (h : env.get t = some (.box g cs)) (d off : Nat) : freeze k env (d + 1) (.ptr k t g off) = fzP off (cs.mapM (freeze k env d)) := by
 simp only [freeze, if_true, h]; cases cs.mapM (freeze k env d) <;> rfl
theorem lR (off : Nat) (cs : List LV) : fzP off (some cs) = some (LV.norm (.fptr cs off)) := rfl
theorem yM {k j : Nat} (h : j < k) (t g : Nat) (env : Env) (d off : Nat) : freeze k env (d + 1) (.ptr j t g off) = some (.ptr j t g off) := by
 simp only [freeze, if_neg (show ¬ j = k by omega)]
theorem tG {k j : Nat} (h : j < k) (t g : Nat) (env : Env) (d : Nat) : freeze k env (d + 1) (.mref j t g) = some (.mref j t g) := by
 simp only [freeze, if_neg (show ¬ j = k by omega)]
theorem SX (j t g : Nat) (r : List LV) : AZ (.mref j t g :: r) = none := rfl
theorem rI {s : St} {r : Nat × Option (Option Nat)} {v : LV} (h : T9 s r = some v) : zq [r] s = some v := by
 simp [zq, h]
theorem ei : zI.enc Fv.nil = .nilfn := rfl
theorem lD (k : Nat) (env : Env) (d : Nat) (ds : List DV) : (ds.map LV.d).mapM (freeze k env (d + 1)) = some (ds.map LV.d) := by
 induction ds with
 | nil => rfl
 | cons v ds ih => simp only [List.map_cons, List.mapM_cons, yN, ih]; rfl
theorem eG (ds : List DV) (off : Nat) : LV.norm (.fptr (ds.map LV.d) off) = .d (.fptr ds off) := by
 simp only [LV.norm, LV.toD, Q2, Option.map_some]
theorem aW (v : DV) (off : Nat) : LV.norm (.fptr [.d v] off) = .d (.fptr [v] off) := rfl
theorem O6 (cs : List LV) (off : Nat) (r : List LV) (h : AZ cs = none) : AZ (.fptr cs off :: r) = none := by simp only [AZ, LV.toD, h, Option.map_none]
theorem aP (cs : List LV) (off : Nat) (h : AZ cs = none) : LV.norm (.fptr cs off) = .fptr cs off := by simp only [LV.norm, LV.toD, h, Option.map_none]
def wM : Option LV → Option (List LV) → Option (List LV)
 | some y, some ys => some (y :: ys)
 | _, _ => none
theorem Zo (y : LV) (ys : List LV) : wM (some y) (some ys) = some (y :: ys) := rfl
theorem tc (f : LV → Option LV) : ([] : List LV).mapM f = some [] := rfl
theorem t8 (f : LV → Option LV) (x : LV) (r : List LV) : (x :: r).mapM f = wM (f x) (r.mapM f) := by
 simp only [List.mapM_cons]; cases f x with
 | none => rfl
 | some y => cases r.mapM f <;> rfl
theorem eV (s : St) (t : Nat) : T9 s (t, none) = freeze s.low.length s.env 9 (ve s.low.length t (s.raw t)) := by
 simp only [T9, DG, Jb]; rfl
theorem UJ {n : Nat} {xs cs : List LV} (h1 : cs.length = n) (h2 : xs.length = n) (h3 : xs.all LV.cellOk = true) : Dx n 0 xs cs = some xs := by
 simp only [Dx, h1, h2, h3, Nat.zero_add, Nat.le_refl, and_self, if_true]
 simp [setCells, h1, h2]
theorem Su (cs : List LV) : LV.known (.agg cs) = some cs := rfl
theorem Hj {LP : BA} {C : AS} (g : Nat) (r : List AG) (s : St) (n t g' off u : Nat) (xs : List LV) (h : s.raw u = some (.v (.agg xs))) :
  TF LP C g r s n t g' off (.tmp u) (some (.v (.agg xs))) = jZ LP C g r ((Gg n off g' (some xs) (s.raw t)).map fun x => s.upd t x) := by
 show Ip LP C g r s n (.ptr s.low.length t g' off) (.tmp u) = _
 have ht : s.take LP (.tmp u) = (.agg xs, s) := by
  unfold St.raw at h
  simp only [St.take, h, St.slot, LV.copy]
 simp only [Ip, ht, I6, Su]
 cases hr : s.raw t with
 | none => rfl
 | some z => cases z with
  | box g2 cs =>
   simp only [Gg]
   by_cases hg : g2 = g'
   ·subst hg
    simp only [if_true]
    by_cases hc : xs.length = n ∧ off + n ≤ cs.length ∧ xs.all LV.cellOk = true
    ·simp only [if_pos hc, Option.map_some, St.setAt, if_true, St.upd]
    ·simp only [if_neg hc, Option.map_none]
   ·simp only [if_neg hg]; rfl
  | _ => rfl
def HS {σ α : Type} (LP : BA) (R : σ → List Fr → Prop) (j g : Nat) (A : α → List LV) (yf : α → σ → Option (Bool × σ)) : Prop :=
 ∀ x s b s', yf x s = some (b, s') → ∀ low, R s low → ∀ (above : List Fr) (ctr : Nat), ∃ low' c, R s' low' ∧ (om LP).round j g (A x) (low ++ above) ctr = some (b, low' ++ above, c)
def ri {σ : Type} (R : σ → List Fr → Prop) (fr : Fr) (s : σ) (low1 : List Fr) : Prop := ∃ low, low1 = low ++ [fr] ∧ R s low
def mC {σ : Type} (LP : BA) (n : Nat) (args : List LV) (R : σ → List Fr → Prop) (low : List Fr) (v : LV) (s' : σ) : Prop := ∀ ctr, ∃ low' ctr', R s' low' ∧ sO LP n args low ctr v low' ctr'
section
variable {σ α : Type} {LP : BA} {R : σ → List Fr → Prop} {N : Nat}
theorem HS.push {j g : Nat} {A : α → List LV} {yf : α → σ → Option (Bool × σ)} (h : HS LP R j g A yf) (fr : Fr) : HS LP (ri R fr) j g A yf := by
 rintro x s b s' hx low1 ⟨low, rfl, hR⟩ above ctr
 obtain ⟨low', c, hR', he⟩ := h x s b s' hx low hR ([fr] ++ above) ctr
 exact ⟨low' ++ [fr], c, ⟨low', rfl, hR'⟩, by simpa using he⟩
theorem SZ (hN : ∀ s low, R s low → low.length = N) (fr : Fr) : ∀ s low1, ri R fr s low1 → low1.length = N + 1 := by
 rintro s low1 ⟨low, rfl, hR⟩
 simp [hN s low hR]
theorem Gn {j t : Nat} {x : BM} (h : ∀ s low, R s low → IH low j t = some x) (fr : Fr) : ∀ s low1, ri R fr s low1 → IH low1 j t = some x := by
 rintro s low1 ⟨low, rfl, hR⟩
 exact HI (h s low hR)
theorem LA {N : Nat} {low : List Fr} {e : Env} {l : Option M6} {t : Nat} {x : BM} (hN : low.length = N) (h : Env.get t e = some x) : IH (low ++ [⟨e, l⟩]) N t = some x := by
 rw [← hN]
 exact SD h
theorem K9 (hN : ∀ s low, R s low → low.length = N) {e : Env} {l : Option M6} {t : Nat} {x : BM} (h : Env.get t e = some x) : ∀ s low1, ri R ⟨e, l⟩ s low1 → IH low1 N t = some x := by
 rintro s low1 ⟨low, rfl, hR⟩
 rw [← hN s low hR]
 exact SD h
noncomputable def aJ (LP : BA) (n : Nat) (args : List LV) (low : List Fr) (ctr : Nat) : List Fr := match (om LP).call n args low ctr with
 | some (_, l, _) => l.dropLast
 | none => []
noncomputable def ov (LP : BA) (j g : Nat) (args : List LV) (low : List Fr) (ctr : Nat) : List Fr := match (om LP).round j g args low ctr with
 | some (_, l, _) => l.dropLast
 | none => []
noncomputable def wP (LP : BA) (j g : Nat) (args : List LV) (low : List Fr) (ctr : Nat) : Nat := match (om LP).round j g args low ctr with
 | some (_, _, c) => c
 | none => 0
theorem mC.om {n : Nat} {args : List LV} {low : List Fr} {fr : Fr} {v : LV} {s' : σ} (hN : ∀ s low, R s low → low.length = N) {s : σ} (hR : R s low) (h : mC LP n args (ri R fr) (low ++ [fr]) v s') (ctr : Nat) :
  (Lf.om LP).call n args (low ++ [fr]) ctr = some (v, aJ LP n args (low ++ [fr]) ctr ++ [fr], TL LP n args (low ++ [fr]) ctr) ∧ R s' (aJ LP n args (low ++ [fr]) ctr) ∧ (aJ LP n args (low ++ [fr]) ctr).length = low.length := by
 obtain ⟨low1, c, ⟨low', rfl, hR'⟩, he⟩ := h ctr
 have := QJ.mpr he
 have e1 : aJ LP n args (low ++ [fr]) ctr = low' := by simp [aJ, this]
 have e2 : TL LP n args (low ++ [fr]) ctr = c := by simp [TL, this]
 rw [e1, e2]
 exact ⟨this, hR', by rw [hN _ _ hR, hN _ _ hR']⟩
theorem HS.om {j g : Nat} {A : α → List LV} {yf : α → σ → Option (Bool × σ)} (h : HS LP R j g A yf) (hN : ∀ s low, R s low → low.length = N) {x : α} {s s' : σ} {b : Bool} {low : List Fr} (hR : R s low) (hx : yf x s = some (b, s')) (fr : Fr) (ctr : Nat) :
  (Lf.om LP).round j g (A x) (low ++ [fr]) ctr = some (b, ov LP j g (A x) (low ++ [fr]) ctr ++ [fr], wP LP j g (A x) (low ++ [fr]) ctr) ∧ R s' (ov LP j g (A x) (low ++ [fr]) ctr) ∧ (ov LP j g (A x) (low ++ [fr]) ctr).length = low.length := by
 obtain ⟨low', c, hR', he⟩ := h x s b s' hx low hR [fr] ctr
 have e1 : ov LP j g (A x) (low ++ [fr]) ctr = low' := by simp [ov, he]
 have e2 : wP LP j g (A x) (low ++ [fr]) ctr = c := by simp [wP, he]
 rw [e1, e2]
 exact ⟨he, hR', by rw [hN _ _ hR, hN _ _ hR']⟩
def xY (lf : NU) (R : σ → List Fr → Prop) (s' : σ) (v : LV) (j : zR) (s : St) : Prop := (j = .normal ∨ j = .ret) ∧ R s' s.low ∧ zq lf.results s = some v
theorem wQ {n : Nat} {lf : NU} {args : List LV} {low : List Fr} {v : LV} {s' : σ} (B : List Nat) (hf : LP.funcs n = some lf) (hl : args.length = lf.nparams)
  (h : ∀ s, (∀ t, s.raw t = (DY 0 args).get t) → s.low = low → NoB B s → Run LP [] lf.body s (xY lf R s' v)) : mC LP n args R low v s' := by
 intro ctr
 obtain ⟨j, s1, hc, hj, hR, hr⟩ := h { env := DY 0 args, low, ctr } (fun _ => rfl) rfl (Vu _ _ _ _)
 exact ⟨s1.low, s1.ctr, hR, sO.func (jmp := j) hf hl hc hj (v := v) hr⟩
end
def St.mergedL (s : St) (vis : List Nat) (low : List Fr) (c : Nat) : St := ⟨Env.merge vis s.env (s.env.keep vis), low, c⟩
theorem Vy (s : St) (vis : List Nat) (low : List Fr) (c t : Nat) : (s.mergedL vis low c).raw t = s.raw t := PE s vis c t
theorem Ub (s : St) (vis : List Nat) (low : List Fr) (c t : Nat) : (s.mergedL vis low c).free t = s.free t := Qj s vis c t
theorem Xa (s : St) (vis : List Nat) (low : List Fr) (c : Nat) : (s.mergedL vis low c).low = low := rfl
theorem eg {LP : BA} {C : AS} (g : Nat) (r : List AG) (s : St) (t : Option Nat) (vis : List Nat) (v : LV) (c : Nat) (low2 : List Fr) (h : low2.length = s.low.length) :
  N5 LP C g r s t vis (some (v, low2 ++ [⟨s.env.keep vis, none⟩], c)) = Gq LP C g r (s.mergedL vis low2 c) t (some v) := by
 simp [N5, St.mergedL, h]
theorem lm (j g : Nat) : (LV.yield j g).copy = .yield j g := rfl
theorem qY (f : Nat) (a b : List LV) : (LV.fn f a b).copy = .fn f a b := rfl
theorem kP (j t g o : Nat) : (LV.ptr j t g o).copy = .ptr j t g o := rfl
theorem eI (j t g : Nat) : (LV.mref j t g).copy = .mref j t g := rfl
theorem lj (a : List LV) : (LV.agg a).copy = .agg a := rfl
theorem eW (a : List LV) (o : Nat) : (LV.fptr a o).copy = .fptr a o := rfl
theorem UW (off : Nat) (cs : List LV) (o : Nat) : JL off (.fptr cs o) = some (.fptr cs (o + off)) := rfl
theorem uY (j g : Nat) : Zl 1 (.yield j g) = some [.yield j g] := rfl
theorem pY (k t j g : Nat) : MS k t (.v (.yield j g)) = .yield j g := rfl
def yv : Option (Bool × List Fr × Nat) → Option (LV × List Fr × Nat)
 | some (b, l, c) => some (.d (.bool b), l, c)
 | none => none
theorem pi (b : Bool) (l : List Fr) (c : Nat) : yv (some (b, l, c)) = some (.d (.bool b), l, c) := rfl
def oa (LP : BA) (C : AS) (g : Nat) (r : List AG) (s : St) (t : Option Nat) (ro : Option (Option Nat)) (u : Nat) (args : List Opd) (vis : List Nat) : LV → Option St
 | .d (.fn f a b) => N5 LP C (g + 1) r s t vis (C.call f (a.map .d ++ args.map (s.val LP) ++ b.map .d) (s.low ++ [⟨s.env.keep vis, none⟩]) s.ctr)
 | .fn f a b => N5 LP C (g + 1) r s t vis (C.call f (a ++ args.map (s.val LP) ++ b) (s.low ++ [⟨s.env.keep vis, none⟩]) s.ctr)
 | .yield j g' => N5 LP C (g + 1) r s t vis (yv (C.round j g' (args.map (s.val LP)) (s.low ++ [⟨s.env.keep vis, none⟩]) s.ctr))
 | _ => evalOps LP C g (⟨t, .call (.tmp u) args (some vis), none, ro⟩ :: r) s
theorem mS {LP : BA} {C : AS} (g : Nat) (r : List AG) (s : St) (t : Option Nat) (ro : Option (Option Nat)) (u : Nat) (args : List Opd) (vis : List Nat) :
  evalOps LP C g (⟨t, .call (.tmp u) args (some vis), none, ro⟩ :: r) s = oa LP C g r s t ro u args vis (s.slot u) := by
 have key : ∀ x, s.slot u = x → evalOps LP C g (⟨t, .call (.tmp u) args (some vis), none, ro⟩ :: r) s = oa LP C g r s t ro u args vis x := by
  intro x hx
  have h1 := s9 (LP := LP) (C := C) g r s t ro u args vis
  cases x with
  | d v => cases v with
   | fn f a b => rw [h1, hx]; rfl
   | _ => rfl
  | fn f a b => rw [h1, hx]; rfl
  | yield j g' =>
   have hr : Au s.low.length ro none = true := by cases ro <;> rfl
   simp only [evalOps, An, zl.addr, Option.map_none, hr, if_true, evalOp, St.val, hx, oa]
   cases C.round j g' (args.map (s.val LP)) (s.low ++ [⟨s.env.keep vis, none⟩]) s.ctr with
   | none => rfl
   | some p =>
    obtain ⟨b, low', c'⟩ := p
    simp only [N5, yv]
    cases low'.getLast? with
    | none => rfl
    | some fr =>
     simp only
     by_cases hl : low'.length = s.low.length + 1
     ·simp only [if_pos hl]; rfl
     ·simp only [if_neg hl]
  | _ => rfl
 exact key _ rfl
theorem pZ (LP : BA) (C : AS) (g : Nat) (r : List AG) (s : St) (t : Option Nat) (ro : Option (Option Nat)) (u : Nat) (args : List Opd) (vis : List Nat) (f : Nat) (a b : List DV) :
 oa LP C g r s t ro u args vis (.d (.fn f a b)) = N5 LP C (g + 1) r s t vis (C.call f (a.map .d ++ args.map (s.val LP) ++ b.map .d) (s.low ++ [⟨s.env.keep vis, none⟩]) s.ctr) := rfl
theorem kb (LP : BA) (C : AS) (g : Nat) (r : List AG) (s : St) (t : Option Nat) (ro : Option (Option Nat)) (u : Nat) (args : List Opd) (vis : List Nat) (f : Nat) (a b : List LV) :
 oa LP C g r s t ro u args vis (.fn f a b) = N5 LP C (g + 1) r s t vis (C.call f (a ++ args.map (s.val LP) ++ b) (s.low ++ [⟨s.env.keep vis, none⟩]) s.ctr) := rfl
theorem pJ (LP : BA) (C : AS) (g : Nat) (r : List AG) (s : St) (t : Option Nat) (ro : Option (Option Nat)) (u : Nat) (args : List Opd) (vis : List Nat) (j g' : Nat) :
 oa LP C g r s t ro u args vis (.yield j g') = N5 LP C (g + 1) r s t vis (yv (C.round j g' (args.map (s.val LP)) (s.low ++ [⟨s.env.keep vis, none⟩]) s.ctr)) := rfl
theorem tX {LP : BA} {ks : List iW} {J : zR → St → Prop} {s : St} {B : List Nat} {ops : List AG} {keep : List Nat} {low : List Fr} {Q : List Fr → Prop} (l : List (Nat × BM)) (hl : s.low = low) (hf : NoB B s) (hB : ops.all (za B) = true) (hk : l.all (fun p => keep.contains p.1) = true)
  (h : ∃ s1, Lf.evalOps LP (om LP) s.ctr ops (s.tick ops.length) = some s1 ∧ B9 l s1 ∧ Q s1.low)
  (h' : ∀ s', B6 l s' → Q s'.low → NoB B s' → Eh LP ks .normal s' J) : Run LP ks (.ops ops keep) s J := by
 obtain ⟨s1, he, hr, hl1⟩ := h
 have hf1 : NoB B s1 := NoB.evalOps hB (show NoB B (s.tick ops.length) from hf) he
 obtain ⟨e, lw, c⟩ := s
 exact ⟨.normal, { s1 with env := s1.env.keep keep }, .ops (Ou he), h' _ (B9.keep hk hr).r hl1 (NoB.keep keep hf1)⟩
theorem qG (s : St) : zq [] s = some (.d (.tup [])) := rfl
def CE (low : List Fr) (j t : Nat) (x : BM) : List Fr := low.modify j fun fr => { fr with env := fr.env.set t x }
def St.setL (s : St) (j t : Nat) (x : BM) : St := { s with low := CE s.low j t x }
theorem Gl (low : List Fr) (j t : Nat) (x : BM) : (CE low j t x).length = low.length := by simp [CE]
theorem KA (s : St) (j t u : Nat) (x : BM) : (s.setL j t x).raw u = s.raw u := rfl
theorem IV (s : St) (j t u : Nat) (x : BM) : (s.setL j t x).free u = s.free u := rfl
theorem KH (s : St) (j t : Nat) (x : BM) : (s.setL j t x).low = CE s.low j t x := rfl
theorem LY (s : St) (j t : Nat) (x : BM) (h : j < s.low.length) : s.setAt j t x = s.setL j t x := by
 simp only [St.setAt, if_neg (show ¬ j = s.low.length by omega)]; rfl
theorem FH {low : List Fr} {j t t' : Nat} {x : BM} (h : j < low.length) : IH (CE low j t x) j t' = if t = t' then some x else IH low j t' := by
 simp only [IH, CE, List.getElem?_modify_eq]
 rw [List.getElem?_eq_getElem h]
 exact JG ..
theorem LO {s : St} {j t g : Nat} (h : j < s.low.length) : s.cells j t g = match IH s.low j t with
  | some (.box g' cs) => if g' = g then some cs else none
  | _ => none := by
 simp only [St.cells, St.at, if_neg (show ¬ j = s.low.length by omega), IH]
 rw [List.getElem?_eq_getElem h]
 simp only
 cases (s.low[j]).env.get t with
 | none => rfl
 | some x => cases x <;> rfl
theorem JD (s : St) (k : Option Nat) (j t g off : Nat) (h : j < s.low.length) : Q5 s k none (.ptr j t g off) = HG k off g (IH s.low j t) := by
 simp only [Q5, Au, if_true, LO h]
 cases IH s.low j t with
 | none => rfl
 | some x => cases x with
  | box g' cs =>
   simp only [HG]
   by_cases hg : g' = g
   ·simp only [if_pos hg]
   ·simp only [if_neg hg]
  | _ => rfl
theorem Hf {low : List Fr} {j t : Nat} {x : BM} (h : IH low j t = some x) : CE low j t x = low := by
 have hj := i8 h
 simp only [IH] at h
 rw [List.getElem?_eq_getElem hj] at h
 simp only [CE]
 apply List.ext_getElem?
 intro i
 rw [List.getElem?_modify]
 by_cases hi : j = i
 ·subst hi
  rw [List.getElem?_eq_getElem hj]
  have h2 := Nc _ _ _ h
  show some (if j = j then { low[j] with env := low[j].env.set t x } else low[j]) = some low[j]
  rw [if_pos rfl, h2]
 ·simp [hi]
section
variable {LP : BA} {C : AS}
theorem Lt (g : Nat) (r : List AG) (s : St) (n j t g' off : Nat) (x : Opd) (v : DV) (hj : j < s.low.length) (hx : nU s x = some (.v (.d v))) :
  Ip LP C g r s n (.ptr j t g' off) x = jZ LP C g r ((Gg n off g' (LV.known (.d v)) (IH s.low j t)).map fun b => s.setL j t b) := by
 have ht : s.take LP x = (.d v, s) := jI hx
 simp only [Ip, ht, LO hj]
 cases IH s.low j t with
 | none => rfl
 | some z => cases z with
  | box g2 cs =>
   simp only [Gg]
   by_cases hg : g2 = g'
   ·subst hg
    simp only [if_true]
    cases LV.known (.d v) with
    | none => rfl
    | some xs =>
     simp only
     by_cases hc : xs.length = n ∧ off + n ≤ cs.length ∧ xs.all LV.cellOk = true
     ·simp only [if_pos hc, Option.map_some, LY s j t _ hj]
     ·simp only [if_neg hc]; rfl
   ·simp only [if_neg hg]
    cases LV.known (.d v) <;> rfl
  | _ => rfl
theorem Tu {β : Type} [zI β] (g : Nat) (r : List AG) (s : St) (n j t g' off u : Nat) (x : Sl β) (hj : j < s.low.length) (hx : s.raw u = some (.v x.lv)) :
  Ip LP C g r s n (.ptr j t g' off) (.tmp u) = jZ LP C g r ((Gg n off g' (some [x.lv]) (IH s.low j t)).map fun b => (s.upd u (.v x.spent.lv)).setL j t b) := by
 have ht : s.take LP (.tmp u) = (x.lv, s.upd u (.v x.spent.lv)) := VW hx
 have hj2 : j < (s.upd u (.v x.spent.lv)).low.length := hj
 simp only [Ip, ht, LO hj2, Ve, cS]
 cases IH s.low j t with
 | none => rfl
 | some z => cases z with
  | box g2 cs =>
   simp only [Gg]
   by_cases hg : g2 = g'
   ·subst hg
    simp only [if_true]
    by_cases hc : [x.lv].length = n ∧ off + n ≤ cs.length ∧ [x.lv].all LV.cellOk = true
    ·simp only [if_pos hc, Option.map_some, LY _ j t _ hj2]
    ·simp only [if_neg hc]; rfl
   ·simp only [if_neg hg]; rfl
  | _ => rfl
theorem FX {s : St} {d : Nat} (v : LV) (h : s.free d = true) : s.put (some d) v = some (s.upd d (.v v)) := by
 simp only [St.put, St.free, St.raw] at h ⊢
 cases hx : s.env.get d with
 | none => rfl
 | some w => rw [hx] at h; cases w <;> simp_all [BM.isV, St.upd]
theorem fY {β : Type} [zI β] (g : Nat) (r : List AG) (s : St) (d : Nat) (p : Opd) (j t gb : Nat) (x : Sl β) (hp : s.val LP p = .ptr j t gb 0) (hj : j < s.low.length) (hb : IH s.low j t = some (.box gb [x.lv])) (hd : s.free d = true) :
  evalOps LP C g (⟨some d, .load none p true, none, none⟩ :: r) s = evalOps LP C (g + 1) r ((s.setL j t (.box gb [x.spent.lv])).upd d (.v x.lv)) := by
 have hc : s.cells j t gb = some [x.lv] := by rw [LO hj, hb]; simp
 have hr : Au s.low.length none (some (LV.ptr j t gb 0)) = true := rfl
 have hd2 : ∀ y, (s.setL j t y).free d = true := fun y => hd
 simp only [evalOps, An, zl.addr, Option.map_some, hp, hr, if_true, evalOp, hc]
 cases x with
 | hot xs =>
  have e : (Sl.hot xs).lv = LV.hot (zI.n β) (xs.map zI.enc) := rfl
  have e2 : (Sl.hot xs).spent.lv = LV.d (.slice (zI.n β) (xs.map zI.enc)) := rfl
  simp only [e, e2, List.getElem?_cons_zero, List.set_cons_zero, LY s j t _ hj, FX _ (hd2 _)]
 | nil =>
  rw [show (Sl.nil : Sl β).spent = Sl.nil from rfl]
  have e3 : s.setL j t (.box gb [(Sl.nil : Sl β).lv]) = s := by simp only [St.setL, Hf hb]
  rw [e3]
  simp only [Sl.lv, List.getElem?_cons_zero, part, Option.map_some, LV.copy, FX _ hd]
 | cold xs =>
  rw [show (Sl.cold xs).spent = Sl.cold xs from rfl]
  have e3 : s.setL j t (.box gb [(Sl.cold xs).lv]) = s := by simp only [St.setL, Hf hb]
  rw [e3]
  simp only [Sl.lv, List.getElem?_cons_zero, part, Option.map_some, LV.copy, FX _ hd]
 | full xs =>
  rw [show (Sl.full xs).spent = Sl.full xs from rfl]
  have e3 : s.setL j t (.box gb [(Sl.full xs).lv]) = s := by simp only [St.setL, Hf hb]
  rw [e3]
  simp only [Sl.lv, List.getElem?_cons_zero, part, Option.map_some, LV.copy, FX _ hd]
theorem Wq {s : St} {j t g n : Nat} {es : List (List Int × LV)} (hj : j < s.low.length) (h : IH s.low j t = some (.mapo g n es)) : s.entries j t g n = some es := by
 simp only [IH] at h
 simp only [St.entries, St.at, if_neg (show ¬ j = s.low.length by omega)]
 rw [List.getElem?_eq_getElem hj] at h ⊢
 simp only at h ⊢
 rw [h]; simp
variable {α : Type} [F6 α]
theorem ak (g : Nat) (r : List AG) (s : St) (u : Nat) (n j t gm : Nat) (m k : Opd) (zd : DV) (key : List Int) (es : List (List Int × α)) (z : α)
  (hm : s.val LP m = .mref j t gm) (hj : j < s.low.length) (hk : (s.val LP k).key n = some key) (he : IH s.low j t = some (.mapo gm n (Dj es))) (hz : F6.elv z = .d zd) (hu : s.free u = true) :
  evalOps LP C g (⟨some u, .mentry n m k zd, none, none⟩ :: r) s = evalOps LP C (g + 1) r ((s.setL j t (.mapo gm n (Dj (FA z F6.coolE es key)))).upd u (.v (.tup [F6.elv (NY z es key), .d (.int (Gv es key))]))) := by
 have h1 : s.entries j t gm n = some (Dj es) := Wq hj he
 have hp : ∀ (x : BM) (y : LV), (s.setL j t x).put (some u) y = some ((s.setL j t x).upd u (.v y)) := fun x y => FX y hu
 have hr : Au s.low.length none (some (LV.mref j t gm)) = true := rfl
 simp only [evalOps, An, zl.addr, Option.map_some, hm, hr, if_true, evalOp, hk, h1, LY s j t _ hj, dH, NY, Gv, FA]
 cases AN key es 0 with
 | none =>
  simp only [Option.map_none, hp, ← hz]
  congr 3
  ·simp [Dj]
  ·simp [Dj]
 | some p =>
  obtain ⟨i, x⟩ := p
  simp only [Option.map_some, hp, F6.hc]
  congr 3
  simp [Dj, List.map_set]
theorem bJ {β : Type} [zI β] (g : Nat) (r : List AG) (s : St) (n j t gm u : Nat) (m i : Opd) (key : List Int) (es : List (List Int × Sl β)) (z a : Sl β)
  (hm : s.val LP m = .mref j t gm) (hj : j < s.low.length) (hi : s.val LP i = .d (.int (Gv es key))) (hv : s.raw u = some (.v a.lv)) (he : IH s.low j t = some (.mapo gm n (Dj (FA z Sl.spent es key)))) :
  evalOps LP C g (⟨none, .mstore n m i (.tmp u), none, none⟩ :: r) s = evalOps LP C (g + 1) r ((s.upd u (.v a.spent.lv)).setL j t (.mapo gm n (Dj (Ei es key a)))) := by
 have hj2 : j < (s.upd u (.v a.spent.lv)).low.length := hj
 have h1 : (s.upd u (.v a.spent.lv)).entries j t gm n = some (Dj (FA z Sl.spent es key)) := Wq hj2 he
 have hg : s.take LP (.tmp u) = (a.lv, s.upd u (.v a.spent.lv)) := VW hv
 have hr : Au s.low.length none (some (LV.mref j t gm)) = true := rfl
 have h3 : F9 (.d (.int (Gv es key))) = some (Gv es key).toNat := by
  apply Zs
  simp only [Gv]; cases AN key es 0 with
  | none => simp
  | some p => simp
 simp only [evalOps, An, zl.addr, Option.map_some, hm, hr, if_true, evalOp, hi, h3, hg, h1, LY _ j t _ hj2]
 cases hq : AN key es 0 with
 | none =>
  have e1 : (Gv es key).toNat = es.length := by simp [Gv, hq]
  have e2 : FA z Sl.spent es key = es ++ [(key, z)] := by simp [FA, hq]
  have e3 : Ei es key a = es ++ [(key, a)] := by simp [Ei, hq]
  rw [e1, e2, e3]
  have e4 : (Dj (es ++ [(key, z)]))[es.length]? = some (key, F6.elv z) := by simp [Dj]
  rw [e4]
  simp only
  congr 3
  simp [Dj, lM]
 | some p =>
  obtain ⟨q, x⟩ := p
  obtain ⟨_, hjx, _⟩ := MW key es 0 q x hq
  have e1 : (Gv es key).toNat = q := by simp [Gv, hq]
  have e2 : FA z Sl.spent es key = es.set q (key, x.spent) := by simp [FA, hq]
  have e3 : Ei es key a = es.set q (key, a) := by simp [Ei, hq]
  rw [e1, e2, e3]
  have e4 : (Dj (es.set q (key, x.spent)))[q]? = some (key, F6.elv x.spent) := by
   simp only [Dj, List.getElem?_map]
   rw [List.getElem?_set_self (by omega)]; rfl
  rw [e4]
  simp only
  congr 3
  simp [Dj, List.map_set, List.set_set, lM]
end
def IE (B : List Nat) (base above : List Fr) (lp : M6) (l : List (Nat × BM)) (low : List Fr) : Prop :=
 ∃ e, low = base ++ [⟨e, some lp⟩] ++ above ∧ NoB B ⟨e, base, 0⟩ ∧ B9 l ⟨e, base, 0⟩
def td (j : Nat) : List (Nat × BM) → List Fr → Prop
 | [], _ => True
 | (t, x) :: l, low => IH low j t = some x ∧ td j l low
section
variable {B : List Nat} {base above : List Fr} {lp : M6} {l l' : List (Nat × BM)} {low : List Fr}
theorem IE.len (h : IE B base above lp l low) : low.length = base.length + 1 + above.length := by
 obtain ⟨e, rfl, _⟩ := h; simp; omega
theorem sb (base above : List Fr) (e : Env) (o : Option M6) (t : Nat) : IH (base ++ [⟨e, o⟩] ++ above) base.length t = e.get t := by
 simp [IH]
theorem IE.all (h : IE B base above lp l low) : td base.length l low := by
 obtain ⟨e, rfl, _, hr⟩ := h
 induction l with
 | nil => trivial
 | cons p l ih => obtain ⟨t, x⟩ := p; exact ⟨by rw [sb]; exact hr.1, ih hr.2⟩
theorem S8 (f : Fr → Fr) (x : Fr) (b : List Fr) : ∀ a : List Fr, (a ++ [x] ++ b).modify a.length f = a ++ [f x] ++ b
 | [] => rfl
 | y :: a => by
  have := S8 f x b a
  show (y :: (a ++ [x] ++ b)).modify (a.length + 1) f = _
  rw [List.modify_succ_cons, this]; rfl
theorem nY (base above : List Fr) (e : Env) (o : Option M6) (t : Nat) (x : BM) : CE (base ++ [⟨e, o⟩] ++ above) base.length t x = base ++ [⟨e.set t x, o⟩] ++ above := S8 _ _ _ _
theorem IE.set (h : IE B base above lp l low) (t : Nat) (x : BM) (hB : B.contains t = true) (hl : ∀ s, B9 l s → B9 l' (s.upd t x)) : IE B base above lp l' (CE low base.length t x) := by
 obtain ⟨e, rfl, hn, hr⟩ := h
 exact ⟨e.set t x, nY .., Ni (s := ⟨e, base, 0⟩) t x hB hn, hl _ hr⟩
theorem NZ (h : IE B base above lp l low) (hl : ∀ s, B9 l s → B9 l' s) : IE B base above lp l' low := by
 obtain ⟨e, rfl, hn, hr⟩ := h
 exact ⟨e, rfl, hn, hl _ hr⟩
end
def zr {α τ X : Type} (F : α → τ → Option (Bool × (τ ⊕ X))) (x : α) : τ ⊕ X → Option (Bool × (τ ⊕ X))
 | .inl t => F x t
 | .inr _ => none
def Ua {τ X : Type} (g : Nat) (params : List Nat) (assign body : Cd) (jm : X → zR) : τ ⊕ X → M6
 | .inl _ => { gen := g, params, assign, body, ready := true, pending := none }
 | .inr x => { gen := g, params, assign, body, ready := false, pending := some (jm x) }
def rj {τ X : Type} (B : List Nat) (base : List Fr) (g : Nat) (params : List Nat) (assign body : Cd) (jm : X → zR) (l : τ ⊕ X → List (Nat × BM)) (st : τ ⊕ X) (low : List Fr) : Prop :=
 IE B base [] (Ua g params assign body jm st) (l st) low
theorem Qi (base above : List Fr) (e : Env) (r : M6) (a : Bool) (p : Option zR) : Il (base ++ [⟨e, some r⟩] ++ above) base.length a p = base ++ [⟨e, some { r with ready := a, pending := p }⟩] ++ above := by
 exact S8 _ _ _ _
theorem Sr (base above : List Fr) (e : Env) (r : M6) : Py (base ++ [⟨e, some r⟩] ++ above) base.length r.gen = some r := by
 simp [Py]
def pu {τ X : Type} (B : List Nat) (base above : List Fr) (lp : M6) (jm : X → zR) (l : τ ⊕ X → List (Nat × BM)) (out : Bool × (τ ⊕ X)) (j : zR) (s : St) : Prop := match out.2 with
 | .inl t => out.1 = true ∧ j = .normal ∧ IE B base above lp (l (.inl t)) s.low
 | .inr x => out.1 = false ∧ j = jm x ∧ jm x ≠ .normal ∧ IE B base above lp (l (.inr x)) s.low
theorem Yn {LP : BA} {α τ X : Type} {B : List Nat} {base : List Fr} {g : Nat} {params : List Nat} {assign body : Cd} {jm : X → zR} {l : τ ⊕ X → List (Nat × BM)} {A : α → List LV} {F : α → τ → Option (Bool × (τ ⊕ X))}
  (hA : ∀ x, (A x).length = params.length)
  (h : ∀ (x : α) (t : τ) (out : Bool × (τ ⊕ X)), F x t = some out → ∀ (e : Env) (above : List Fr) (ctr : Nat), NoB B ⟨e, base, 0⟩ → B9 (l (.inl t)) ⟨e, base, 0⟩ →
   Run LP [] assign ⟨FG params (A x) (e.map fun p => (p.1, Em base.length p.1 p.2)), base ++ [⟨e, some { gen := g, params, assign, body, ready := true, pending := none }⟩] ++ above, ctr⟩ fun j s1 => j = .normal ∧
    s1.low = base ++ [⟨e, some { gen := g, params, assign, body, ready := true, pending := none }⟩] ++ above ∧
    Run LP [] body { s1 with low := base ++ [⟨e, some { gen := g, params, assign, body, ready := false, pending := none }⟩] ++ above } (pu B base above { gen := g, params, assign, body, ready := false, pending := none } jm l out)) :
  HS LP (rj B base g params assign body jm l) base.length g A (zr F) := by
 rintro x st b st' hF low1 ⟨e, rfl, hn, hr⟩ above ctr
 cases st with
 | inr y => simp [zr] at hF
 | inl t =>
  simp only [zr] at hF
  obtain ⟨j1, s1, hc1, rfl, hl1, j2, s2, hc2, he2⟩ := h x t (b, st') hF e above ctr hn hr
  obtain ⟨n1, hn1⟩ := hc1
  obtain ⟨n2, hn2⟩ := hc2
  have a1 := Df LP (E7 LP (Nat.le_max_left n1 n2)) (Nat.le_max_left n1 n2) hn1
  have a2 := Df LP (E7 LP (Nat.le_max_right n1 n2)) (Nat.le_max_right n1 n2) hn2
  have hsl : Il s1.low base.length false none = base ++ [⟨e, some { gen := g, params, assign, body, ready := false, pending := none }⟩] ++ above := by
   rw [hl1]; exact Qi ..
  have hla : Py s1.low base.length g = some { gen := g, params, assign, body, ready := true, pending := none } := by
   rw [hl1]; exact Sr base above e { gen := g, params, assign, body, ready := true, pending := none }
  have hlow : (base ++ [⟨e, some (Ua g params assign body jm (.inl t : τ ⊕ X))⟩] ++ [] ++ above)[base.length]? = some ⟨e, some (Ua g params assign body jm (.inl t : τ ⊕ X))⟩ := by simp
  have key : ∀ r, endRound base.length g j2 s2 = some r → (Lf.om LP).round base.length g (A x) (base ++ [⟨e, some (Ua g params assign body jm (.inl t : τ ⊕ X))⟩] ++ [] ++ above) ctr = some r := by
   intro r hr2
   refine mB.mpr ⟨max n1 n2 + 1, ?_⟩
   simp only [Gt, JW, hlow]
   have hcond : (Ua g params assign body jm (.inl t : τ ⊕ X)).gen = g ∧ (Ua g params assign body jm (.inl t : τ ⊕ X)).ready = true ∧ (Ua g params assign body jm (.inl t : τ ⊕ X)).pending = none ∧ (A x).length = (Ua g params assign body jm (.inl t : τ ⊕ X)).params.length := ⟨rfl, rfl, rfl, hA x⟩
   rw [if_pos hcond]
   simp only [List.append_nil]
   have a1' : Ab LP (Gt LP (max n1 n2)) (max n1 n2) (Ua g params assign body jm (.inl t : τ ⊕ X)).assign { env := FG (Ua g params assign body jm (.inl t : τ ⊕ X)).params (A x) (List.map (fun p => (p.1, Em base.length p.1 p.2)) e), low := base ++ [⟨e, some (Ua g params assign body jm (.inl t : τ ⊕ X))⟩] ++ above, ctr } = some (.normal, s1) := a1
   rw [a1']
   simp only [hla, and_self, if_true, hsl]
   have a2' : Ab LP (Gt LP (max n1 n2)) (max n1 n2) (Ua g params assign body jm (.inl t : τ ⊕ X)).body { s1 with low := base ++ [⟨e, some { gen := g, params, assign, body, ready := false, pending := none }⟩] ++ above } = some (j2, s2) := a2
   rw [a2']
   exact hr2
  cases st' with
  | inl t' =>
   obtain ⟨hb, rfl, e', hl2, hn2, hr2⟩ := he2
   simp only at hb
   subst hb
   refine ⟨base ++ [⟨e', some (Ua g params assign body jm (.inl t' : τ ⊕ X))⟩] ++ [], s2.ctr, ⟨e', rfl, hn2, hr2⟩, key _ ?_⟩
   have : Py s2.low base.length g = some { gen := g, params, assign, body, ready := false, pending := none } := by
    rw [hl2]; exact Sr base above e' { gen := g, params, assign, body, ready := false, pending := none }
   rw [hl2] at this
   simp only [endRound, hl2, this, Qi, List.append_nil, Ua]
  | inr y =>
   obtain ⟨hb, hj, hne, e', hl2, hn2, hr2⟩ := he2
   simp only at hb
   subst hb
   refine ⟨base ++ [⟨e', some (Ua g params assign body jm (.inr y : τ ⊕ X))⟩] ++ [], s2.ctr, ⟨e', rfl, hn2, hr2⟩, key _ ?_⟩
   have : Py s2.low base.length g = some { gen := g, params, assign, body, ready := false, pending := none } := by
    rw [hl2]; exact Sr base above e' { gen := g, params, assign, body, ready := false, pending := none }
   rw [hj]
   rw [hl2] at this
   simp only [endRound, hl2, this, Qi, List.append_nil]
   cases hjm : jm y with
   | normal => exact absurd hjm hne
   | exit i => simp only [Ua, hjm]
   | ret => simp only [Ua, hjm]
theorem Run.rng {LP : BA} {ks : List iW} {J : zR → St → Prop} {τ X : Type} {B : List Nat} {base : List Fr} {f : Opd} {params : List Nat} {assign body : Cd} {s : St} {n : Nat} {a b : List LV} {jm : X → zR} {l : τ ⊕ X → List (Nat × BM)} {t0 : τ} {st' : τ ⊕ X} {v : LV}
  (hl : s.low = base) (hf : NoB B s) (ht : target (s.val LP f) = some (n, a, b)) (hr : B9 (l (.inl t0)) s)
  (hp : ∀ g low1, rj B base g params assign body jm l (.inl t0) low1 → mC LP n (a ++ [.yield base.length g] ++ b) (rj B base g params assign body jm l) low1 v st')
  (hJ : ∀ s', s'.low = base → NoB B s' → B9 (l st') s' → Eh LP ks (match st' with | .inl _ => .normal | .inr x => jm x) s' J) : Run LP ks (.rng f params assign body) s J := by
 have raw_eq : ∀ (s2 : St) (e : Env) (c : Nat), s2.env = e → ∀ l, B9 l s2 → B9 l ⟨e, base, c⟩ := by
  intro s2 e c he l
  induction l with
  | nil => intro _; trivial
  | cons p l ih => obtain ⟨t, x⟩ := p; subst he; exact fun h => ⟨h.1, ih h.2⟩
 have nob_eq : ∀ (s2 : St) (e : Env) (c : Nat), s2.env = e → NoB B s2 → NoB B ⟨e, base, c⟩ := by
  intro s2 e c he h u hu; subst he; exact h u hu
 have hc : rj B base s.ctr params assign body jm l (.inl t0) (base ++ [⟨s.env, some (Ua s.ctr params assign body jm (.inl t0 : τ ⊕ X))⟩] ++ []) :=
  ⟨s.env, rfl, nob_eq s _ _ rfl hf, raw_eq s _ _ rfl _ hr⟩
 obtain ⟨low', ctr', ⟨e', hl', hn', hr'⟩, m, hm⟩ := hp s.ctr _ hc (s.ctr + 1)
 simp only [List.append_nil] at hl' hm
 subst hl'
 have hlast : (base ++ [(⟨e', some (Ua s.ctr params assign body jm st')⟩ : Fr)]).getLast? = some ⟨e', some (Ua s.ctr params assign body jm st')⟩ := by simp
 refine ⟨(Ua s.ctr params assign body jm st').pending.getD .normal, ⟨e', base, ctr'⟩, ⟨m, ?_⟩, ?_⟩
 ·simp only [Ab, ht, hl]
  have hm' : (Gt LP m).call n (a ++ [LV.yield base.length s.ctr] ++ b) (base ++ [{ env := s.env, loop := some { gen := s.ctr, params, assign, body, ready := true, pending := none } }]) (s.ctr + 1) = some (v, base ++ [⟨e', some (Ua s.ctr params assign body jm st')⟩], ctr') := hm
  rw [hm']
  simp only [hlast]
  have hcond : (base ++ [(⟨e', some (Ua s.ctr params assign body jm st')⟩ : Fr)]).length = base.length + 1 ∧ (Ua s.ctr params assign body jm st').gen = s.ctr ∧ ((Ua s.ctr params assign body jm st').ready = true ∨ (Ua s.ctr params assign body jm st').pending.isSome = true) := by
   refine ⟨by simp, by cases st' <;> rfl, ?_⟩
   cases st' with
   | inl _ => exact .inl rfl
   | inr _ => exact .inr rfl
  rw [if_pos hcond]
  simp
 ·have := hJ ⟨e', base, ctr'⟩ rfl (nob_eq ⟨e', base, 0⟩ e' ctr' rfl hn') (raw_eq ⟨e', base, 0⟩ e' ctr' rfl _ hr')
  cases st' with
  | inl _ => exact this
  | inr _ => exact this
theorem MC (j : Nat) (t : Nat) : ∀ e : Env, Env.get t (e.map fun p => (p.1, Em j p.1 p.2)) = (Env.get t e).map (Em j t)
 | [] => rfl
 | (u, x) :: e => by
  simp only [List.map_cons, Env.get]
  by_cases h : u = t
  ·subst h; simp
  ·simp only [if_neg h]; exact MC j t e
theorem Ji : ∀ (ps : List Nat) (xs : List LV) (e : Env) (t : Nat), ps.contains t = false → Env.get t (FG ps xs e) = Env.get t e
 | [], _, _, _, _ => by simp [FG]
 | _ :: _, [], _, _, _ => by simp [FG]
 | p :: ps, x :: xs, e, t, h => by
  rw [List.contains_cons, Bool.or_eq_false_iff] at h
  simp only [FG]
  rw [Ji ps xs _ t h.2, JG, if_neg]
  intro hp; subst hp; simp at h
theorem WI : ∀ (ps : List Nat) (xs : List LV) (e : Env) (low : List Fr) (c : Nat), ps.Nodup → B9 ((ps.zip xs).map fun p => (p.1, BM.v p.2)) ⟨FG ps xs e, low, c⟩
 | [], _, _, _, _, _ => trivial
 | _ :: _, [], _, _, _, _ => trivial
 | p :: ps, x :: xs, e, low, c, h => by
  rw [List.nodup_cons] at h
  refine ⟨?_, WI ps xs (e.set p (.v x)) low c h.2⟩
  show Env.get p (FG ps xs (e.set p (.v x))) = some (.v x)
  rw [Ji ps xs _ p (by simpa using h.1), JG, if_pos rfl]
theorem Uc : ∀ (ps : List Nat) (xs : List LV) (e : Env) (low : List Fr) (c t : Nat), (∀ u, St.free ⟨e, low, c⟩ u = true) → St.free ⟨FG ps xs e, low, c⟩ t = true
 | [], _, _, _, _, t, h => h t
 | _ :: _, [], _, _, _, t, h => h t
 | p :: ps, x :: xs, e, low, c, t, h => by
  refine Uc ps xs (e.set p (.v x)) low c t ?_
  intro u
  have := J3 ⟨e, low, c⟩ p u (.v x)
  show St.free (St.upd ⟨e, low, c⟩ p (.v x)) u = true
  rw [this]
  by_cases hu : p = u
  ·rw [if_pos hu]; rfl
  ·rw [if_neg hu]; exact h u
theorem nf (j : Nat) (e : Env) (low : List Fr) (c u : Nat) : St.free ⟨e.map fun p => (p.1, Em j p.1 p.2), low, c⟩ u = true := by
 simp only [St.free, St.raw, MC]
 cases Env.get u e with
 | none => rfl
 | some x => cases x <;> rfl
theorem NoB.congr {B : List Nat} {s s' : St} (h : NoB B s) (hr : ∀ u, s'.raw u = s.raw u) : NoB B s' := by
 intro u hu
 have := h u hu
 simp only [St.free] at this ⊢
 rw [hr]; exact this
theorem H5 {LP : BA} {α τ X : Type} {B : List Nat} {base : List Fr} {g : Nat} {params : List Nat} {assign body : Cd} {jm : X → zR} {l : τ ⊕ X → List (Nat × BM)} {A : α → List LV} {F : α → τ → Option (Bool × (τ ⊕ X))}
  (hnd : params.Nodup) (hA : ∀ x, (A x).length = params.length)
  (h : ∀ (x : α) (t : τ) (out : Bool × (τ ⊕ X)), F x t = some out → ∀ (e : Env) (above low0 low : List Fr) (lp : M6) (s : St),
   (∀ u y, params.contains u = false → Env.get u e = some y → s.raw u = some (Em base.length u y)) → B9 ((params.zip (A x)).map fun p => (p.1, BM.v p.2)) s → B9 (l (.inl t)) ⟨e, base, 0⟩ → IE B base above lp (l (.inl t)) low → s.low = low0 → NoB B s →
   Run LP [] assign s fun j s1 => j = .normal ∧ s1.low = low0 ∧ ∀ s2 : St, (∀ u, s2.raw u = s1.raw u) → s2.low = low → Run LP [] body s2 (pu B base above lp jm l out)) :
  HS LP (rj B base g params assign body jm l) base.length g A (zr F) := by
 refine Yn hA ?_
 intro x t out hF e above ctr hn hr
 have hb : IE B base above { gen := g, params, assign, body, ready := false, pending := none } (l (.inl t)) (base ++ [⟨e, some { gen := g, params, assign, body, ready := false, pending := none }⟩] ++ above) := ⟨e, rfl, hn, hr⟩
 obtain ⟨j, s1, h1, rfl, h2, h3⟩ := h x t out hF e above (base ++ [⟨e, some { gen := g, params, assign, body, ready := true, pending := none }⟩] ++ above) _ { gen := g, params, assign, body, ready := false, pending := none }
  ⟨FG params (A x) (e.map fun p => (p.1, Em base.length p.1 p.2)), base ++ [⟨e, some { gen := g, params, assign, body, ready := true, pending := none }⟩] ++ above, ctr⟩
  (fun u y hu hy => by
   show Env.get u (FG params (A x) _) = _
   rw [Ji _ _ _ _ hu, MC, hy]; rfl)
  (WI _ _ _ _ _ hnd) hr hb rfl (fun u _ => Uc _ _ _ _ _ _ (fun u => nf _ _ _ _ _))
 exact ⟨.normal, s1, h1, rfl, h2, h3 _ (fun u => rfl) rfl⟩
theorem xy {α : Type} [zI α] {s : St} {t g : Nat} {x : Sl α} (h : s.raw t = some (.box g [.d (zI.enc x)])) : s.raw t = some (.box g [x.cool.lv]) := by rw [h, Ov]
theorem Vb {τ X : Type} {B : List Nat} {base : List Fr} {g : Nat} {params : List Nat} {assign body : Cd} {jm : X → zR} {l : τ ⊕ X → List (Nat × BM)} (st : τ ⊕ X) (low : List Fr) (h : rj B base g params assign body jm l st low) : low.length = base.length + 1 := by
 have := IE.len h
 simpa using this
theorem xx : type_of% (And.intro @gw <| And.intro @iD <| And.intro @ua <| And.intro @dy <| And.intro @kV <| And.intro @lH <| And.intro @lJ <| And.intro @mE <| And.intro @kc <| And.intro @mg <| And.intro @rA <| And.intro @pP <| And.intro @uU <| And.intro @tZ <| And.intro @uD <| And.intro @wK <| And.intro @tf <| And.intro @xA <| And.intro @uK <| And.intro @ki <| And.intro @mW <| And.intro @uV <| And.intro @gU <| And.intro @dV <| And.intro @lV <| And.intro @kZ <| And.intro @kY <| And.intro @oz <| And.intro @rM <| And.intro @ll <| And.intro @uO <| And.intro @rY <| And.intro @mU <| And.intro @fM <| And.intro @lu <| And.intro @ff <| And.intro @Ag <| And.intro @mT <| And.intro @cS <| And.intro @mA <| And.intro @mN <| And.intro @J3 <| And.intro @du <| And.intro @Jb <| And.intro @Fe <| And.intro @Oa <| And.intro @fR <| And.intro @hU <| And.intro @Kx <| And.intro @eF <| And.intro @Z3 <| And.intro @fZ <| And.intro @aB <| And.intro @qn <| And.intro @t7 <| And.intro @rQ <| And.intro @mj <| And.intro @kg <| And.intro @dt <| And.intro @lQ <| And.intro @SO <| And.intro @kS <| And.intro @mP <| And.intro @eC <| And.intro @qq <| And.intro @qI <| And.intro @dc <| And.intro @qp <| And.intro @az <| And.intro @mt <| And.intro @PD <| And.intro @Z4 <| And.intro @WC <| And.intro @gB <| And.intro @ag <| And.intro @aG <| And.intro @ac <| And.intro @X3 <| And.intro @Z8 <| And.intro @Zk <| And.intro @Xy <| And.intro @Zv <| And.intro @fq <| And.intro @da <| And.intro @ah <| And.intro @Zh <| And.intro @cj <| And.intro @mM <| And.intro @mK <| And.intro @Rh <| And.intro @Ve <| And.intro @aS <| And.intro @aM <| And.intro @YC <| And.intro @gl <| And.intro @dq <| And.intro @hG <| And.intro @kW <| And.intro @Vr <| And.intro @Vf <| And.intro @mm <| And.intro @qm <| And.intro @dh <| And.intro @aF <| And.intro @pF <| And.intro @mZ <| And.intro @gg <| And.intro @Zz <| And.intro @kT <| And.intro @kK <| And.intro @kR <| And.intro @dz <| And.intro @Nj <| And.intro @pH <| And.intro @pK <| And.intro @qW <| And.intro @lr <| And.intro @mV <| And.intro @lP <| And.intro @kO <| And.intro @kQ <| And.intro @kX <| And.intro @lI <| And.intro @kL <| And.intro @lA <| And.intro @qH <| And.intro @pV <| And.intro @pX <| And.intro @aK <| And.intro @Wy <| And.intro @bC <| And.intro @bN <| And.intro @qo <| And.intro @mr <| And.intro @lZ <| And.intro @wx <| And.intro @lq <| And.intro @ae <| And.intro @PE <| And.intro @Qj <| And.intro @Zg <| And.intro @lT <| And.intro @ei <| And.intro @SX <| And.intro @O6 <| And.intro @md <| And.intro @aQ <| And.intro @gr <| And.intro @lM <| And.intro @lG <| And.intro @qF <| And.intro @iK <| And.intro @ln <| And.intro @Zx <| And.intro @RO <| And.intro @XV <| And.intro @gz <| And.intro @aV <| And.intro @YA <| And.intro @d5 <| And.intro @V2 <| And.intro @be <| And.intro @Rm <| And.intro @SA <| And.intro @Qq <| And.intro @kx <| And.intro @IY <| And.intro @dY <| And.intro @Zj <| And.intro @ox <| And.intro @mY <| And.intro @Vz <| And.intro @mS <| And.intro @pZ <| And.intro @kb <| And.intro @pJ <| And.intro @pi <| And.intro @eg <| And.intro @Vy <| And.intro @Ub <| And.intro @Xa <| And.intro @uY <| And.intro @UW <| And.intro @G3 <| And.intro @qY <| And.intro @kP <| And.intro @eI <| And.intro @lj <| And.intro @eW <| And.intro @lm <| And.intro @pY <| And.intro @pp <| And.intro @get_keep <| And.intro @UT <| And.intro @aA <| And.intro @xF @wT) :=
 And.intro @gw <| And.intro @iD <| And.intro @ua <| And.intro @dy <| And.intro @kV <| And.intro @lH <| And.intro @lJ <| And.intro @mE <| And.intro @kc <| And.intro @mg <| And.intro @rA <| And.intro @pP <| And.intro @uU <| And.intro @tZ <| And.intro @uD <| And.intro @wK <| And.intro @tf <| And.intro @xA <| And.intro @uK <| And.intro @ki <| And.intro @mW <| And.intro @uV <| And.intro @gU <| And.intro @dV <| And.intro @lV <| And.intro @kZ <| And.intro @kY <| And.intro @oz <| And.intro @rM <| And.intro @ll <| And.intro @uO <| And.intro @rY <| And.intro @mU <| And.intro @fM <| And.intro @lu <| And.intro @ff <| And.intro @Ag <| And.intro @mT <| And.intro @cS <| And.intro @mA <| And.intro @mN <| And.intro @J3 <| And.intro @du <| And.intro @Jb <| And.intro @Fe <| And.intro @Oa <| And.intro @fR <| And.intro @hU <| And.intro @Kx <| And.intro @eF <| And.intro @Z3 <| And.intro @fZ <| And.intro @aB <| And.intro @qn <| And.intro @t7 <| And.intro @rQ <| And.intro @mj <| And.intro @kg <| And.intro @dt <| And.intro @lQ <| And.intro @SO <| And.intro @kS <| And.intro @mP <| And.intro @eC <| And.intro @qq <| And.intro @qI <| And.intro @dc <| And.intro @qp <| And.intro @az <| And.intro @mt <| And.intro @PD <| And.intro @Z4 <| And.intro @WC <| And.intro @gB <| And.intro @ag <| And.intro @aG <| And.intro @ac <| And.intro @X3 <| And.intro @Z8 <| And.intro @Zk <| And.intro @Xy <| And.intro @Zv <| And.intro @fq <| And.intro @da <| And.intro @ah <| And.intro @Zh <| And.intro @cj <| And.intro @mM <| And.intro @mK <| And.intro @Rh <| And.intro @Ve <| And.intro @aS <| And.intro @aM <| And.intro @YC <| And.intro @gl <| And.intro @dq <| And.intro @hG <| And.intro @kW <| And.intro @Vr <| And.intro @Vf <| And.intro @mm <| And.intro @qm <| And.intro @dh <| And.intro @aF <| And.intro @pF <| And.intro @mZ <| And.intro @gg <| And.intro @Zz <| And.intro @kT <| And.intro @kK <| And.intro @kR <| And.intro @dz <| And.intro @Nj <| And.intro @pH <| And.intro @pK <| And.intro @qW <| And.intro @lr <| And.intro @mV <| And.intro @lP <| And.intro @kO <| And.intro @kQ <| And.intro @kX <| And.intro @lI <| And.intro @kL <| And.intro @lA <| And.intro @qH <| And.intro @pV <| And.intro @pX <| And.intro @aK <| And.intro @Wy <| And.intro @bC <| And.intro @bN <| And.intro @qo <| And.intro @mr <| And.intro @lZ <| And.intro @wx <| And.intro @lq <| And.intro @ae <| And.intro @PE <| And.intro @Qj <| And.intro @Zg <| And.intro @lT <| And.intro @ei <| And.intro @SX <| And.intro @O6 <| And.intro @md <| And.intro @aQ <| And.intro @gr <| And.intro @lM <| And.intro @lG <| And.intro @qF <| And.intro @iK <| And.intro @ln <| And.intro @Zx <| And.intro @RO <| And.intro @XV <| And.intro @gz <| And.intro @aV <| And.intro @YA <| And.intro @d5 <| And.intro @V2 <| And.intro @be <| And.intro @Rm <| And.intro @SA <| And.intro @Qq <| And.intro @kx <| And.intro @IY <| And.intro @dY <| And.intro @Zj <| And.intro @ox <| And.intro @mY <| And.intro @Vz <| And.intro @mS <| And.intro @pZ <| And.intro @kb <| And.intro @pJ <| And.intro @pi <| And.intro @eg <| And.intro @Vy <| And.intro @Ub <| And.intro @Xa <| And.intro @uY <| And.intro @UW <| And.intro @G3 <| And.intro @qY <| And.intro @kP <| And.intro @eI <| And.intro @lj <| And.intro @eW <| And.intro @lm <| And.intro @pY <| And.intro @pp <| And.intro @get_keep <| And.intro @UT <| And.intro @aA <| And.intro @xF @wT
end Go.Lf
