/- A part of the proof. -/
import Derived.Test.YtbkliocalcihjaaDoorx1
set_option linter.all false
namespace Go.Lf
open Go
def W (x : Int) : Int := IntKind.i64.wrap x
inductive Sl (α : Type) where
 | nil
 | cold (xs : List α)
 | hot (xs : List α)
 | full (xs : List α)
 deriving Inhabited
namespace Sl
variable {α : Type}
def l : Sl α → List α
 | nil => []
 | cold xs | hot xs | full xs => xs
def len (x : Sl α) : Int := x.l.length
def ix (x : Sl α) (i : Int) : Option α := if 0 ≤ i then x.l[i.toNat]? else none
def cool : Sl α → Sl α
 | nil => nil
 | cold xs | hot xs | full xs => cold xs
def spent : Sl α → Sl α
 | hot xs => cold xs
 | x => x
def app (q : Nat) (x : Sl α) (ys : List α) : Option (Sl α) := match x with
 | nil => if ys = [] then some nil else if I7 ys.length q then some (hot ys) else none
 | cold _ => none
 | hot xs => if I7 (xs.length + ys.length) q then some (hot (xs ++ ys)) else none
 | full xs => if ys = [] then some (full xs) else if I7 (xs.length + ys.length) q then some (hot (xs ++ ys)) else none
def sub (x : Sl α) (lo hi : Option Int) : Option (Sl α) := match x with
 | nil => if lo.getD 0 = 0 ∧ hi.getD 0 = 0 then some nil else none
 | cold xs | hot xs | full xs => if 0 ≤ lo.getD 0 ∧ lo.getD 0 ≤ hi.getD xs.length ∧ hi.getD xs.length ≤ xs.length then some (cold ((xs.take (hi.getD xs.length).toNat).drop (lo.getD 0).toNat)) else none
def sub3 (x : Sl α) (lo : Option Int) (hi : Int) : Option (Sl α) := match x with
 | nil => if lo.getD 0 = 0 ∧ hi = 0 then some nil else none
 | cold xs | hot xs | full xs => if 0 ≤ lo.getD 0 ∧ lo.getD 0 ≤ hi ∧ hi ≤ xs.length then some (full ((xs.take hi.toNat).drop (lo.getD 0).toNat)) else none
end Sl
class Enc (α : Type) where
 n : Nat
 cells : α → List DV
 enc : α → DV
 law : ∀ x, (enc x).cells = cells x
instance : Enc Int := ⟨1, fun x => [.int x], .int, fun _ => rfl⟩
instance : Enc Bool := ⟨1, fun x => [.bool x], .bool, fun _ => rfl⟩
instance : Enc DV := ⟨1, fun x => x.cells, fun x => x, fun _ => rfl⟩
instance {α β : Type} [Enc α] [Enc β] : Enc (α × β) := ⟨1, fun x => [.tup [Enc.enc x.1, Enc.enc x.2]], fun x => .tup [Enc.enc x.1, Enc.enc x.2], fun _ => rfl⟩
section
variable {α : Type} [Enc α]
def Sl.dv : Sl α → DV
 | .nil => .nils
 | .cold xs | .hot xs | .full xs => .slice (Enc.n α) (xs.map Enc.enc)
def Sl.lv : Sl α → LV
 | .nil => .d .nils
 | .cold xs => .d (.slice (Enc.n α) (xs.map Enc.enc))
 | .hot xs => .hot (Enc.n α) (xs.map Enc.enc)
 | .full xs => .full (Enc.n α) (xs.map Enc.enc)
instance : Enc (Sl α) := ⟨1, fun x => [x.dv], Sl.dv, fun x => by cases x <;> rfl⟩
end
def St.upd (s : St) (t : Nat) (x : A6) : St := { s with env := s.env.set t x }
def A6.isV : A6 → Bool
 | .v _ => true
 | _ => false
def KI (k t : Nat) : A6 → LV
 | .v x => x.copy
 | .box g _ => .ptr k t g 0
 | .mapo g _ _ => .mref k t g
def St.raw (s : St) (t : Nat) : Option A6 := s.env.get t
def St.free (s : St) (t : Nat) : Bool := match s.raw t with
 | some x => x.isV
 | none => true
theorem Ij (e : Env) (t u : Nat) (x : A6) : (e.set t x).get u = if t = u then some x else e.get u := by
 induction e with
 | nil => simp [Env.set, Env.get]
 | cons p e ih =>
  obtain ⟨v, y⟩ := p
  simp only [Env.set]
  by_cases h : v = t
  ·subst h
   simp only [if_true, Env.get]
   by_cases h2 : v = u
   ·simp [h2]
   ·simp [h2]
  ·simp only [h, if_false, Env.get]
   by_cases h2 : v = u
   ·subst h2
    simp [Ne.symm h]
   ·simp [h2, ih]
theorem A2 (s : St) (t u : Nat) (x : A6) : (s.upd t x).raw u = if t = u then some x else s.raw u := Ij ..
theorem xx (low : List Fr) (ctr t : Nat) : St.raw ⟨[], low, ctr⟩ t = none := rfl
theorem jX (u : Nat) (x : A6) (e : Env) (low : List Fr) (ctr t : Nat) : St.raw ⟨(u, x) :: e, low, ctr⟩ t = if u = t then some x else St.raw ⟨e, low, ctr⟩ t := rfl
theorem cG (s : St) (t : Nat) (x : A6) : (s.upd t x).low = s.low := rfl
theorem yY (s : St) (t : Nat) (x : A6) : (s.upd t x).ctr = s.ctr := rfl
theorem JE (s : St) (t u : Nat) (x : A6) : (s.upd t x).free u = if t = u then x.isV else s.free u := by
 simp only [St.free, A2]
 by_cases h : t = u <;> simp [h]
theorem xi (low : List Fr) (ctr t : Nat) : St.free ⟨[], low, ctr⟩ t = true := rfl
theorem pB (u : Nat) (x : A6) (e : Env) (low : List Fr) (ctr t : Nat) : St.free ⟨(u, x) :: e, low, ctr⟩ t = if u = t then x.isV else St.free ⟨e, low, ctr⟩ t := by
 simp only [St.free, jX]
 by_cases h : u = t <;> simp [h]
theorem Hh (s : St) (t : Nat) : s.slot t = match s.raw t with
 | some x => KI s.low.length t x
 | none => .d .bot := by
 simp only [St.slot, St.raw]
 cases s.env.get t with
 | none => rfl
 | some x => cases x <;> rfl
theorem xU (s : St) (t u : Nat) (x : A6) : (s.upd t x).slot u = if t = u then KI s.low.length t x else s.slot u := by
 rw [Hh, Hh, A2, cG]
 by_cases h : t = u <;> simp [h]
theorem vF (u : Nat) (x : A6) (e : Env) (low : List Fr) (ctr t : Nat) : St.slot ⟨(u, x) :: e, low, ctr⟩ t = if u = t then KI low.length u x else St.slot ⟨e, low, ctr⟩ t := by
 rw [Hh, Hh, jX]
 by_cases h : u = t <;> simp [h]
theorem bK (k t : Nat) (v : DV) : KI k t (.v (.d v)) = .d v := rfl
theorem vY (k t : Nat) (v : Int) : KI k t (.v (.d (.int v))) = .d (.int v) := rfl
theorem cr (k t j u g o : Nat) : KI k t (.v (.ptr j u g o)) = .ptr j u g o := rfl
theorem ZZ (k t j u g : Nat) : KI k t (.v (.mref j u g)) = .mref j u g := rfl
theorem ej (k t g : Nat) (cs : List LV) : KI k t (.box g cs) = .ptr k t g 0 := rfl
theorem fa (k t g n : Nat) (es : List (List Int × LV)) : KI k t (.mapo g n es) = .mref k t g := rfl
theorem xZ (k t f : Nat) (a b : List LV) : KI k t (.v (.fn f a b)) = .fn f a b := rfl
theorem xO {α : Type} [Enc α] (k t : Nat) (x : Sl α) : (∀ xs, x ≠ .full xs) → KI k t (.v x.lv) = .d (Enc.enc x) := by
 cases x <;> simp [KI, Sl.lv, LV.copy, Enc.enc, Sl.dv]
def Hj (LP : Aw) (C : AM) (g : Nat) (r : List AD) (s : St) (t : Option Nat) : Option LV → Option St
 | none => none
 | some v => match s.put t v with
  | some s' => evalOps LP C g r s'
  | none => none
def mc (sz : Nat) (x i : LV) : Option LV := match LR x, E1 i with
 | some (z, xs), some i => match xs[i]? with
  | some e => if z = sz then some (.d (.fptr e.cells 0)) else none
  | none => none
 | _, _ => none
def pM (c a b : LV) : Option LV := match EW c with
 | some true => some a
 | some false => some b
 | none => none
def gQ (op : BinOp) (x y : LV) : Option LV := match NS x, NS y with
 | some a, some b => (BZ (binOp op 0 (.int .i64 a) (.int .i64 b))).map .d
 | _, _ => none
def vw (neg : Bool) (x y : LV) : Option LV := match EW x, EW y with
 | some a, some b => some (.d (.bool (if neg then a != b else a == b)))
 | _, _ => none
def uq (neg : Bool) (n : Nat) (x y : LV) : Option LV := match x.aggKey, y.aggKey with
 | some a, some b => if a.length = n ∧ b.length = n then some (.d (.bool (if neg then decide (a ≠ b) else decide (a = b)))) else none
 | _, _ => none
def vUn (op : UnOp) (x : LV) : Option LV := match x with
 | .d (.int a) => (BZ (Op.unary op (.int .i64 a))).map .d
 | .d (.bool a) => (BZ (Op.unary op (.bool a))).map .d
 | _ => none
def td (x : LV) : Option LV := (fy x).map fun n => .d (.int n)
def vMm (isMax : Bool) (xs : List LV) : Option LV := (minmax isMax xs).map fun n => .d (.int n)
def qb (i : Nat) : Option A6 → Option LV
 | some (.v (.d (.tup cs))) => (cs[i]?).map .d
 | some (.v (.tup cs)) => (cs[i]?).map LV.copy
 | _ => none
def GZ : Option LV → Option (Option Nat)
 | none => some none
 | some x => (E1 x).map some
def II (sz : Nat) (x : LV) (lo hi mx : Option LV) : Option LV := match GZ lo, GZ hi, GZ mx with
 | some lo, some hi, some mx => Nj sz x lo hi mx
 | _, _, _ => none
def Cj (zs : List DV) (ps : List (Nat × Nat × LV)) : Option LV := (Br ps (zs.map .d)).map fun cs => LV.norm (.agg cs)
def cZ (k : Option Nat) (zs : List DV) (len : Nat) (ps : List (Nat × Nat × LV)) : Option LV :=
 match Br ps ((List.replicate len zs).flatten.map .d) with
 | some cs => if cs.all LV.cellOk then match AW cs with
  | some ds => ((List.range len).mapM fun i => Ak k (i * k.getD 1) ds).map fun xs => .hot (k.getD 1) xs
  | none => none else none
 | none => none
def Og (sz n : Nat) (p i : LV) : Option LV := match E1 i with
 | some i => if i < n then Hz (i * sz) p else none
 | none => none
def Ro (k : Option Nat) (sz n : Nat) (x i : LV) : Option LV := match E1 i with
 | some i => if i < n then Jr k (i * sz) x else none
 | none => none
def gX (C : AM) (f : LV) (args : List LV) : Option LV := match target f, AW args with
 | some (f, a, b), some ds => match AW a, AW b with
  | some a, some b => match C.call f ((a ++ ds ++ b).map .d) [] 0 with
   | some (v, _, _) => v.toD.map .d
   | none => none
  | _, _ => none
 | _, _ => none
def ZK (n : Nat) (x : LV) : Option (List LV) := match x.known with
 | some cs => if cs.length = n ∧ cs.all LV.cellOk then some cs else none
 | none => none
def GX (k : Option Nat) (off g : Nat) : Option A6 → Option LV
 | some (.box g' cs) => if g' = g then part k off cs else none
 | _ => none
def Qb (s : St) (k : Option Nat) (root : Option (Option Nat)) (p : LV) : Option LV :=
 if An s.low.length root (some p) then match p with
  | .d (.fptr cs off) => (Ak k off cs).map .d
  | .fptr cs off => part k off cs
  | .ptr j t g off => match s.cells j t g with
   | some cs => part k off cs
   | none => none
  | _ => none
 else none
def P0 (n : Nat) (ok : Bool) (z : DV) (m k : LV) : Option LV := match k.key n with
 | none => none
 | some key =>
  let out (r : Option DV) : Option LV := some (if ok then LV.norm (.tup [.d (r.getD z), .d (.bool r.isSome)]) else .d (r.getD z))
  match m with
  | .d (.fmap n' es) => if n' = n then out ((AN key es 0).map (·.2)) else none
  | .d .nilmap => out none
  | _ => none
def GH (n off g : Nat) (xs : Option (List LV)) : Option A6 → Option A6
 | some (.box g' cs) => match xs with
  | some xs => if g' = g then (if xs.length = n ∧ off + n ≤ cs.length ∧ xs.all LV.cellOk then some (.box g (setCells cs off xs)) else none) else none
  | none => none
 | _ => none
section
variable (LP : Aw) (C : AM)
def gJ (g : Nat) (r : List AD) : Option St → Option St
 | some s => evalOps LP C g r s
 | none => none
def dk (g : Nat) (r : List AD) (s : St) (t : Option Nat) (x : Nat) : Option A6 → Option St
 | some (.v (.hot z xs)) => Hj LP C g r (s.upd x (.v (.d (.slice z xs)))) t (some (.hot z xs))
 | _ => Hj LP C g r s t (some (s.slot x))
def eH (g : Nat) (r : List AD) (s : St) (t : Option Nat) (x : Nat) (sz q : Nat) (y : LV) : Option A6 → Option St
 | some (.v (.hot z xs)) => Hj LP C g r (s.upd x (.v (.d (.slice z xs)))) t (A9 sz q (.hot z xs) y)
 | _ => Hj LP C g r s t (A9 sz q (s.slot x) y)
def IK (g : Nat) (r : List AD) (s : St) (n : Nat) (p : LV) (x : Opd) : Option St := gJ LP C g r (match p with
 | .ptr j t g' off =>
  let r := s.take LP x
  match r.2.cells j t g', r.1.known with
  | some cs, some xs => if xs.length = n ∧ off + n ≤ cs.length ∧ xs.all LV.cellOk then some (r.2.setAt j t (.box g' (setCells cs off xs))) else none
  | _, _ => none
 | _ => none)
def Qq (g : Nat) (o : AD) (r : List AD) (s : St) (w : Bool) : LV → Option St
 | .d (.bool b) => if b = w then evalOps LP C g (o :: r) s else Hj LP C (g + 1) r s o.dst (some (.d .undef))
 | .d .undef => Hj LP C (g + 1) r s o.dst (some (.d .undef))
 | _ => none
variable {LP C} (g : Nat) (r : List AD) (s : St) (t : Option Nat) (ro : Option (Option Nat))
theorem dy (u : Nat) (v : LV) (h : s.free u = true) : Hj LP C g r s (some u) (some v) = evalOps LP C g r (s.upd u (.v v)) := by
 simp only [Hj, St.put, St.free, St.raw, St.upd] at *
 cases hx : s.env.get u with
 | none => rfl
 | some x => rw [hx] at h; cases x <;> simp_all [A6.isV]
theorem dq (v : LV) : Hj LP C g r s none (some v) = evalOps LP C g r s := rfl
theorem sd : evalOps LP C g [] s = some s := rfl
theorem dJ : gJ LP C g r (some s) = evalOps LP C g r s := rfl
theorem BG {o : zn} {v : Option LV} (hm : o.addr = none) (h : evalOp LP C g t o s = match v with | some v => s.put t v | none => none) :
  evalOps LP C g (⟨t, o, none, ro⟩ :: r) s = Hj LP C (g + 1) r s t v := by
 have hr : An s.low.length ro none = true := by cases ro <;> rfl
 simp only [evalOps, Ag, hm, Option.map_none, hr, if_true, h]
 cases v with
 | none => rfl
 | some v => rfl
theorem ju (o : zn) (b : Nat) (w : Bool) : evalOps LP C g (⟨t, o, some (b, w), ro⟩ :: r) s = Qq LP C g ⟨t, o, none, ro⟩ r s w (s.slot b) := by
 simp only [evalOps, Ag, Qq]
 split <;> rename_i h <;> split at h <;> simp_all [Hj]
 all_goals (try split at h <;> simp_all)
 all_goals (try (split <;> simp_all))
theorem iy (o : AD) : Qq LP C g o r s true (.d (.bool true)) = evalOps LP C g (o :: r) s := rfl
theorem jJ (o : AD) : Qq LP C g o r s false (.d (.bool false)) = evalOps LP C g (o :: r) s := rfl
theorem jT (o : AD) : Qq LP C g o r s true (.d (.bool false)) = Hj LP C (g + 1) r s o.dst (some (.d .undef)) := rfl
theorem jA (o : AD) : Qq LP C g o r s false (.d (.bool true)) = Hj LP C (g + 1) r s o.dst (some (.d .undef)) := rfl
theorem jR (o : AD) (w : Bool) : Qq LP C g o r s w (.d .undef) = Hj LP C (g + 1) r s o.dst (some (.d .undef)) := by cases w <;> rfl
theorem nS (x : Opd) : evalOps LP C g (⟨t, .move x false, none, ro⟩ :: r) s = Hj LP C (g + 1) r s t (some (s.val LP x)) := BG (v := some (s.val LP x)) _ _ _ _ _ rfl rfl
theorem np (c a b : Opd) : evalOps LP C g (⟨t, .pick c a b, none, ro⟩ :: r) s = Hj LP C (g + 1) r s t (pM (s.val LP c) (s.val LP a) (s.val LP b)) :=
 BG (v := pM (s.val LP c) (s.val LP a) (s.val LP b)) _ _ _ _ _ rfl (by simp only [evalOp, pM]; cases EW (s.val LP c) with | none => rfl | some b => cases b <;> rfl)
theorem sk (op : BinOp) (x y : Opd) : evalOps LP C g (⟨t, .bin op x y, none, ro⟩ :: r) s = Hj LP C (g + 1) r s t (gQ op (s.val LP x) (s.val LP y)) :=
 BG (v := gQ op (s.val LP x) (s.val LP y)) _ _ _ _ _ rfl (by
  simp only [evalOp, gQ]; cases NS (s.val LP x) with
  | none => rfl
  | some a => cases NS (s.val LP y) with
   | none => rfl
   | some b => simp only; cases BZ (binOp op 0 (.int .i64 a) (.int .i64 b)) <;> rfl)
theorem sf (neg : Bool) (x y : Opd) : evalOps LP C g (⟨t, .eqb neg x y, none, ro⟩ :: r) s = Hj LP C (g + 1) r s t (vw neg (s.val LP x) (s.val LP y)) :=
 BG (v := vw neg (s.val LP x) (s.val LP y)) _ _ _ _ _ rfl (by
  simp only [evalOp, vw]; cases EW (s.val LP x) with
  | none => rfl
  | some a => cases EW (s.val LP y) <;> rfl)
theorem sJ (neg : Bool) (n : Nat) (x y : Opd) : evalOps LP C g (⟨t, .eqa neg n x y, none, ro⟩ :: r) s = Hj LP C (g + 1) r s t (uq neg n (s.val LP x) (s.val LP y)) :=
 BG (v := uq neg n (s.val LP x) (s.val LP y)) _ _ _ _ _ rfl (by
  simp only [evalOp, uq]; cases (s.val LP x).aggKey with
  | none => rfl
  | some a => cases (s.val LP y).aggKey with
   | none => rfl
   | some b => simp only; split <;> rfl)
theorem vK (op : UnOp) (x : Opd) : evalOps LP C g (⟨t, .un op x, none, ro⟩ :: r) s = Hj LP C (g + 1) r s t (vUn op (s.val LP x)) :=
 BG (v := vUn op (s.val LP x)) _ _ _ _ _ rfl (by
  simp only [evalOp, vUn]
  cases s.val LP x with
  | d v => cases v with
   | int a => simp only; cases BZ (Op.unary op (.int .i64 a)) <;> rfl
   | bool a => simp only; cases BZ (Op.unary op (.bool a)) <;> rfl
   | _ => rfl
  | _ => rfl)
theorem si (x : Opd) : evalOps LP C g (⟨t, .len x, none, ro⟩ :: r) s = Hj LP C (g + 1) r s t (td (s.val LP x)) :=
 BG (v := td (s.val LP x)) _ _ _ _ _ rfl (by simp only [evalOp, td]; cases fy (s.val LP x) <;> rfl)
theorem vP (b : Bool) (xs : List Opd) : evalOps LP C g (⟨t, .minmax b xs, none, ro⟩ :: r) s = Hj LP C (g + 1) r s t (vMm b (xs.map (s.val LP))) :=
 BG (v := vMm b (xs.map (s.val LP))) _ _ _ _ _ rfl (by simp only [evalOp, vMm]; cases minmax b (xs.map (s.val LP)) <;> rfl)
theorem sF (i x : Nat) : evalOps LP C g (⟨t, .extract i (.tmp x) false, none, ro⟩ :: r) s = Hj LP C (g + 1) r s t (qb i (s.raw x)) :=
 BG (v := qb i (s.raw x)) _ _ _ _ _ rfl (by
  simp only [evalOp, St.raw]
  cases s.env.get x with
  | none => rfl
  | some y => cases y with
   | v y => cases y with
    | d y => cases y with
     | tup cs => simp only [qb]; cases cs[i]? <;> rfl
     | _ => rfl
    | tup cs => simp only [qb]; cases cs[i]? <;> rfl
    | _ => rfl
   | _ => rfl)
theorem jE (sz : Nat) (x : Opd) (lo hi mx : Option Opd) : evalOps LP C g (⟨t, .slice sz x lo hi mx, none, ro⟩ :: r) s = Hj LP C (g + 1) r s t (II sz (s.val LP x) (lo.map (s.val LP)) (hi.map (s.val LP)) (mx.map (s.val LP))) :=
 BG (v := II sz (s.val LP x) (lo.map (s.val LP)) (hi.map (s.val LP)) (mx.map (s.val LP))) _ _ _ _ _ rfl (by
  have e : ∀ o : Option Opd, optNat (s.val LP) o = GZ (o.map (s.val LP)) := fun o => by cases o <;> rfl
  simp only [evalOp, II, e]
  cases GZ (lo.map (s.val LP)) with
  | none => rfl
  | some a => cases GZ (hi.map (s.val LP)) with
   | none => rfl
   | some b => cases GZ (mx.map (s.val LP)) with
    | none => rfl
    | some c => simp only; cases Nj sz (s.val LP x) a b c <;> rfl)
theorem jr (zs : List DV) (ps : List (Nat × Nat × Opd)) : evalOps LP C g (⟨t, .build zs ps, none, ro⟩ :: r) s = Hj LP C (g + 1) r s t (Cj zs (ps.map fun p => (p.1, p.2.1, s.val LP p.2.2))) :=
 BG (v := Cj zs (ps.map fun p => (p.1, p.2.1, s.val LP p.2.2))) _ _ _ _ _ rfl (by
  simp only [evalOp, Cj]; cases Br (ps.map fun p => (p.1, p.2.1, s.val LP p.2.2)) (zs.map .d) <;> rfl)
theorem sb (k : Option Nat) (zs : List DV) (len : Nat) (ps : List (Nat × Nat × Opd)) : evalOps LP C g (⟨t, .lit k zs len ps, none, ro⟩ :: r) s = Hj LP C (g + 1) r s t (cZ k zs len (ps.map fun p => (p.1, p.2.1, s.val LP p.2.2))) :=
 BG (v := cZ k zs len (ps.map fun p => (p.1, p.2.1, s.val LP p.2.2))) _ _ _ _ _ rfl (by
  simp only [evalOp, cZ]
  cases Br (ps.map fun p => (p.1, p.2.1, s.val LP p.2.2)) ((List.replicate len zs).flatten.map .d) with
  | none => rfl
  | some cs =>
   simp only
   split
   ·cases AW cs with
    | none => rfl
    | some ds => simp only; cases (List.range len).mapM fun i => Ak k (i * k.getD 1) ds <;> rfl
   ·rfl)
theorem fW (sz : Nat) (x i : Opd) : evalOps LP C g (⟨t, .iaddrS sz x i, none, ro⟩ :: r) s = Hj LP C (g + 1) r s t (mc sz (s.val LP x) (s.val LP i)) :=
 BG (v := mc sz (s.val LP x) (s.val LP i)) _ _ _ _ _ rfl (by
  simp only [evalOp, mc]
  cases LR (s.val LP x) with
  | none => rfl
  | some p => cases E1 (s.val LP i) with
   | none => rfl
   | some k =>
    simp only
    cases p.2[k]? with
    | none => rfl
    | some e => simp only; split <;> rfl)
theorem cb (sz n : Nat) (p i : Opd) : evalOps LP C g (⟨t, .iaddrA sz n p i, none, ro⟩ :: r) s = Hj LP C (g + 1) r s t (Og sz n (s.val LP p) (s.val LP i)) :=
 BG (v := Og sz n (s.val LP p) (s.val LP i)) _ _ _ _ _ rfl (by
  simp only [evalOp, Og]
  cases E1 (s.val LP i) with
  | none => rfl
  | some k => simp only; split <;> rfl)
theorem kB (k : Option Nat) (sz n : Nat) (x i : Opd) : evalOps LP C g (⟨t, .index k sz n x i, none, ro⟩ :: r) s = Hj LP C (g + 1) r s t (Ro k sz n (s.val LP x) (s.val LP i)) :=
 BG (v := Ro k sz n (s.val LP x) (s.val LP i)) _ _ _ _ _ rfl (by
  simp only [evalOp, Ro]
  cases E1 (s.val LP i) with
  | none => rfl
  | some m => simp only; split <;> rfl)
theorem kc (off : Nat) (p : Opd) : evalOps LP C g (⟨t, .faddr off p, none, ro⟩ :: r) s = Hj LP C (g + 1) r s t (Hz off (s.val LP p)) :=
 BG (v := Hz off (s.val LP p)) _ _ _ _ _ rfl (by simp only [evalOp]; cases Hz off (s.val LP p) <;> rfl)
theorem j9 (k : Option Nat) (off : Nat) (x : Opd) : evalOps LP C g (⟨t, .field k off x, none, ro⟩ :: r) s = Hj LP C (g + 1) r s t (Jr k off (s.val LP x)) :=
 BG (v := Jr k off (s.val LP x)) _ _ _ _ _ rfl (by simp only [evalOp]; cases Jr k off (s.val LP x) <;> rfl)
theorem nz (f : Nat) (a b : List Opd) : evalOps LP C g (⟨t, .mkfn f a b, none, ro⟩ :: r) s = Hj LP C (g + 1) r s t (some (LV.norm (.fn f (a.map (s.val LP)) (b.map (s.val LP))))) :=
 BG (v := some (LV.norm (.fn f (a.map (s.val LP)) (b.map (s.val LP))))) _ _ _ _ _ rfl rfl
theorem pp (f : Opd) (args : List Opd) : evalOps LP C g (⟨t, .call f args none, none, ro⟩ :: r) s = Hj LP C (g + 1) r s t (gX C (s.val LP f) (args.map (s.val LP))) :=
 BG (v := gX C (s.val LP f) (args.map (s.val LP))) _ _ _ _ _ rfl (by
  simp only [evalOp, gX]
  split
  ·rename_i f' a b ds h1 h2
   simp only [h1, h2]
   cases AW a with
   | none => rfl
   | some a => cases AW b with
    | none => rfl
    | some b =>
     simp only
     cases C.call f' (List.map LV.d (a ++ ds ++ b)) [] 0 with
     | none => rfl
     | some p => obtain ⟨v, x, y⟩ := p; simp only; cases v.toD <;> rfl
  ·rename_i h
   cases h1 : target (s.val LP f) with
   | none => rfl
   | some p => cases h2 : AW (args.map (s.val LP)) with
    | none => rfl
    | some ds => exact absurd h2 (h _ _ _ _ h1))
theorem i4 (u : Nat) (zs : List DV) : evalOps LP C g (⟨some u, .alloc zs, none, ro⟩ :: r) s = evalOps LP C (g + 1) r (s.upd u (.box g (zs.map .d))) := by
 have hr : An s.low.length ro none = true := by cases ro <;> rfl
 simp only [evalOps, Ag, zn.addr, Option.map_none, hr, if_true, evalOp, St.upd]
theorem sT (u n : Nat) (x : Opd) : evalOps LP C g (⟨some u, .box n x, none, ro⟩ :: r) s = gJ LP C (g + 1) r ((ZK n (s.val LP x)).map fun cs => s.upd u (.box g cs)) := by
 have hr : An s.low.length ro none = true := by cases ro <;> rfl
 simp only [evalOps, Ag, zn.addr, Option.map_none, hr, if_true, evalOp, ZK]
 cases (s.val LP x).known with
 | none => rfl
 | some cs =>
  simp only
  by_cases h : cs.length = n ∧ cs.all LV.cellOk = true
  ·simp only [if_pos h]; rfl
  ·simp only [if_neg h]; rfl
theorem jC (u n : Nat) : evalOps LP C g (⟨some u, .mkmap n, none, ro⟩ :: r) s = evalOps LP C (g + 1) r (s.upd u (.mapo g n [])) := by
 have hr : An s.low.length ro none = true := by cases ro <;> rfl
 simp only [evalOps, Ag, zn.addr, Option.map_none, hr, if_true, evalOp, St.upd]
theorem pX (k : Option Nat) (p : Opd) : evalOps LP C g (⟨t, .load k p false, none, ro⟩ :: r) s = Hj LP C (g + 1) r s t (Qb s k ro (s.val LP p)) := by
 have e : Ag LP C g ⟨t, .load k p false, none, ro⟩ s = if An s.low.length ro (some (s.val LP p)) = true then evalOp LP C g t (.load k p false) s else none := rfl
 simp only [evalOps, e, Qb]
 by_cases h : An s.low.length ro (some (s.val LP p)) = true
 case neg => rw [if_neg h, if_neg h]; rfl
 case pos =>
  rw [if_pos h, if_pos h]
  simp only [evalOp]
  cases s.val LP p with
  | d v => cases v with
   | fptr cs off => simp only; cases Ak k off cs <;> rfl
   | _ => rfl
  | fptr cs off => simp only; cases part k off cs <;> rfl
  | ptr j t' g' off => simp only; cases s.cells j t' g' with
   | none => rfl
   | some cs => simp only; cases part k off cs <;> rfl
  | _ => rfl
theorem ja (n : Nat) (p x : Opd) (h : An s.low.length ro (some (s.val LP p)) = true) : evalOps LP C g (⟨t, .store n p x, none, ro⟩ :: r) s = IK LP C (g + 1) r s n (s.val LP p) x := by
 simp only [evalOps, Ag, zn.addr, Option.map_some, h, if_true, evalOp, IK]
 cases s.val LP p with
 | ptr j t' g' off =>
  simp only
  cases (s.take LP x).2.cells j t' g' with
  | none => rfl
  | some cs => cases (s.take LP x).1.known with
   | none => rfl
   | some xs =>
    simp only
    by_cases hc : xs.length = n ∧ off + n ≤ cs.length ∧ xs.all LV.cellOk = true
    ·simp only [if_pos hc, gJ]
    ·simp only [if_neg hc, gJ]
 | _ => rfl
def qH (s : St) (n : Nat) (ok : Bool) (z : DV) (ro : Option (Option Nat)) (m k : LV) : Option LV :=
 if An s.low.length ro (some m) then match m with
  | .mref j t g' => match k.key n with
   | none => none
   | some key => match s.entries j t g' n with
    | some es => some (if ok then LV.norm (.tup [((AN key es 0).map fun p => p.2.copy).getD (.d z), .d (.bool (AN key es 0).isSome)]) else ((AN key es 0).map fun p => p.2.copy).getD (.d z))
    | none => none
  | m => P0 n ok z m k
 else none
theorem dT (n : Nat) (m k : Opd) (ok : Bool) (z : DV) : evalOps LP C g (⟨t, .lookup n m k ok z, none, ro⟩ :: r) s = Hj LP C (g + 1) r s t (qH s n ok z ro (s.val LP m) (s.val LP k)) := by
 have e : Ag LP C g ⟨t, .lookup n m k ok z, none, ro⟩ s = if An s.low.length ro (some (s.val LP m)) = true then evalOp LP C g t (.lookup n m k ok z) s else none := rfl
 simp only [evalOps, e, qH]
 by_cases h : An s.low.length ro (some (s.val LP m)) = true
 case neg => rw [if_neg h, if_neg h]; rfl
 case pos =>
  rw [if_pos h, if_pos h]
  simp only [evalOp]
  cases hk : (s.val LP k).key n with
  | none => cases s.val LP m <;> simp only [P0, hk] <;> rfl
  | some key => cases hm : s.val LP m with
   | mref j t' g' =>
    simp only
    cases s.entries j t' g' n with
    | none => rfl
    | some es => simp only; cases AN key es 0 <;> cases ok <;> rfl
   | d v => cases v with
    | fmap n' es =>
     simp only [P0, hk]
     by_cases hn : n' = n
     ·simp only [if_pos hn]; cases AN key es 0 <;> cases ok <;> rfl
     ·simp only [if_neg hn]; rfl
    | nilmap => simp only [P0, hk]; cases ok <;> rfl
    | _ => simp only [P0, hk]; rfl
   | _ => simp only [P0, hk]; rfl
theorem i6 (x : Nat) : evalOps LP C g (⟨t, .move (.tmp x) true, none, ro⟩ :: r) s = dk LP C (g + 1) r s t x (s.raw x) := by
 have hr : An s.low.length ro none = true := by cases ro <;> rfl
 simp only [evalOps, Ag, zn.addr, Option.map_none, hr, if_true, evalOp, St.take, dk, St.raw]
 cases s.env.get x with
 | none => rfl
 | some y => cases y with
  | v y => cases y <;> rfl
  | _ => rfl
theorem ke (x : Nat) (z : Nat) (xs : List DV) (y : Opd) (h : s.env.get x = some (.v (.hot z xs))) : ({ s with env := s.env.set x (.v (.d (.slice z xs))) } : St).val LP y = s.val LP y := by
 cases y with
 | tmp u =>
  simp only [St.val, St.slot, Ij]
  by_cases hu : x = u
  ·subst hu; simp [h, LV.copy]
  ·simp only [hu, if_false]
 | con v => rfl
 | glob v => rfl
theorem ey (sz q x : Nat) (y : Opd) : evalOps LP C g (⟨t, .append sz q (.tmp x) y, none, ro⟩ :: r) s = eH LP C (g + 1) r s t x sz q (s.val LP y) (s.raw x) := by
 have hr : An s.low.length ro none = true := by cases ro <;> rfl
 simp only [evalOps, Ag, zn.addr, Option.map_none, hr, if_true, evalOp, St.take, eH, St.raw]
 cases he : s.env.get x with
 | none => simp only; cases A9 sz q (s.slot x) (s.val LP y) <;> rfl
 | some z => cases z with
  | v z => cases z with
   | hot z xs => simp only [ke s x z xs y he]; cases A9 sz q (.hot z xs) (s.val LP y) <;> rfl
   | _ => simp only; cases A9 sz q (s.slot x) (s.val LP y) <;> rfl
  | _ => simp only; cases A9 sz q (s.slot x) (s.val LP y) <;> rfl
end
section
variable (LP : Aw)
open Classical in
noncomputable def om : AM where
 call f args low ctr := if h : ∃ r, ∃ n, (C5 LP n).call f args low ctr = some r then some h.choose else none
 round j g args low ctr := if h : ∃ r, ∃ n, (C5 LP n).round j g args low ctr = some r then some h.choose else none
variable {LP}
theorem JS {f : Nat} {args : List LV} {low : List Fr} {ctr : Nat} {r : LV × List Fr × Nat} : (om LP).call f args low ctr = some r ↔ ∃ n, (C5 LP n).call f args low ctr = some r := by
 constructor
 ·intro h
  simp only [om] at h
  split at h
  ·rename_i h'
   simp only [Option.some.injEq] at h
   exact h ▸ h'.choose_spec
  ·simp at h
 ·intro h
  have h' : ∃ r, ∃ n, (C5 LP n).call f args low ctr = some r := ⟨r, h⟩
  simp only [om, dif_pos h', Option.some.injEq]
  obtain ⟨n, hn⟩ := h'.choose_spec
  obtain ⟨m, hm⟩ := h
  have h1 := (Ew LP (Nat.le_max_left n m)).1 _ _ _ _ _ hn
  have h2 := (Ew LP (Nat.le_max_right n m)).1 _ _ _ _ _ hm
  rw [h1] at h2
  exact Option.some.inj h2
theorem jL {j g : Nat} {args : List LV} {low : List Fr} {ctr : Nat} {r : Bool × List Fr × Nat} : (om LP).round j g args low ctr = some r ↔ ∃ n, (C5 LP n).round j g args low ctr = some r := by
 constructor
 ·intro h
  simp only [om] at h
  split at h
  ·rename_i h'
   simp only [Option.some.injEq] at h
   exact h ▸ h'.choose_spec
  ·simp at h
 ·intro h
  have h' : ∃ r, ∃ n, (C5 LP n).round j g args low ctr = some r := ⟨r, h⟩
  simp only [om, dif_pos h', Option.some.injEq]
  obtain ⟨n, hn⟩ := h'.choose_spec
  obtain ⟨m, hm⟩ := h
  have h1 := (Ew LP (Nat.le_max_left n m)).2 _ _ _ _ _ _ hn
  have h2 := (Ew LP (Nat.le_max_right n m)).2 _ _ _ _ _ _ hm
  rw [h1] at h2
  exact Option.some.inj h2
theorem fw {g : Nat} {dst : Option Nat} {o : zn} {s s' : St} (h : evalOp LP (om LP) g dst o s = some s') : ∃ n, evalOp LP (C5 LP n) g dst o s = some s' := by
 cases o with
 | call f args vis =>
  cases vis with
  | none =>
   simp only [evalOp] at h
   split at h
   ·rename_i f' a b ds h1 h2
    split at h
    ·rename_i a' b' h3 h4
     split at h
     ·rename_i v x y h5
      obtain ⟨n, hn⟩ := JS.mp h5
      refine ⟨n, ?_⟩
      simp only [evalOp, h1, h2, h3, h4, hn]
      exact h
     ·simp at h
    ·simp at h
   ·simp at h
  | some vis =>
   have key : ∀ fv, s.val LP f = fv → (∀ j g', fv ≠ .yield j g') → ∃ n, evalOp LP (C5 LP n) g dst (.call f args (some vis)) s = some s' := by
    intro fv hf hy
    have e : ∀ C, evalOp LP C g dst (.call f args (some vis)) s = match target fv with
      | some (f, a, b) => match C.call f (a ++ args.map (s.val LP) ++ b) (s.low ++ [{ env := s.env.keep vis, loop := none }]) s.ctr with
       | some (v, low', c') => match low'.getLast? with
        | some fr => if low'.length = s.low.length + 1 then ({ env := Env.merge vis s.env fr.env, low := low'.dropLast, ctr := c' } : St).put dst v else none
        | none => none
       | none => none
      | none => none := by
     intro C
     simp only [evalOp, hf]
     cases fv with
     | yield j g' => exact absurd rfl (hy j g')
     | _ => rfl
    rw [e] at h
    split at h
    ·rename_i f' a b ht
     split at h
     ·rename_i v low' c' h5
      obtain ⟨n, hn⟩ := JS.mp h5
      refine ⟨n, ?_⟩
      rw [e]
      simp only [ht, hn]
      exact h
     ·simp at h
    ·simp at h
   cases hf : s.val LP f with
   | yield j g' =>
    simp only [evalOp, hf] at h
    split at h
    ·rename_i b low' c' h5
     obtain ⟨n, hn⟩ := jL.mp h5
     refine ⟨n, ?_⟩
     simp only [evalOp, hf, hn]
     exact h
    ·simp at h
   | _ => exact key _ hf (by intro j g' e; cases e)
 | move x t => exact ⟨0, by cases t <;> exact h⟩
 | _ => exact ⟨0, h⟩
theorem iT {g : Nat} {o : AD} {s s' : St} (h : Ag LP (om LP) g o s = some s') : ∃ n, Ag LP (C5 LP n) g o s = some s' := by
 obtain ⟨dst, op, guard, root⟩ := o
 cases guard with
 | none =>
  simp only [Ag] at h ⊢
  by_cases hr : An s.low.length root (op.addr.map (s.val LP)) = true
  ·simp only [hr, if_true] at h ⊢
   exact fw h
  ·simp only [hr] at h
   simp at h
 | some p =>
  obtain ⟨t, w⟩ := p
  simp only [Ag] at h ⊢
  split at h
  ·rename_i b hb
   by_cases hw : b = w
   ·simp only [hw, if_true] at h ⊢
    by_cases hr : An s.low.length root (op.addr.map (s.val LP)) = true
    ·simp only [hr, if_true] at h ⊢
     exact fw h
    ·simp only [hr] at h
     simp at h
   ·simp only [hw, if_false] at h ⊢
    exact ⟨0, h⟩
  ·exact ⟨0, h⟩
  ·simp at h
theorem NK : ∀ {ops : List AD} {g : Nat} {s s' : St}, evalOps LP (om LP) g ops s = some s' → IH LP g ops s s'
 | [], g, s, s', h => by
  simp only [evalOps, Option.some.injEq] at h
  subst h; exact .nil
 | o :: r, g, s, s', h => by
  simp only [evalOps] at h
  split at h
  ·rename_i s1 h1
   exact .cons (iT h1) (NK h)
  ·simp at h
end
inductive gG where
 | seq (c : B6)
 | block (id : Nat)
 | loop (c : B6)
section
variable (LP : Aw)
def ET : List gG → zk → St → (zk → St → Prop) → Prop
 | [], j, s, J => J j s
 | .seq c :: ks, j, s, J => if j = .normal then ∃ j' s', Ah LP c s j' s' ∧ ET ks j' s' J else ET ks j s J
 | .block id :: ks, j, s, J => if j = .exit id then ET ks .normal s J else ET ks j s J
 | .loop c :: ks, j, s, J => if j = .normal then ∃ j' s', Ah LP (.loop c) s j' s' ∧ ET ks j' s' J else ET ks j s J
def Run (ks : List gG) (c : B6) (s : St) (J : zk → St → Prop) : Prop := ∃ j s', Ah LP c s j s' ∧ ET LP ks j s' J
variable {LP} {ks : List gG} {s s' : St} {J : zk → St → Prop} {a b c : B6}
theorem ET.nil {j : zk} (h : J j s) : ET LP [] j s J := h
theorem ET.seq (h : Run LP ks c s J) : ET LP (.seq c :: ks) .normal s J := by simp only [ET, if_true]; exact h
theorem cH {i : Nat} (h : ET LP ks (.exit i) s J) : ET LP (.seq c :: ks) (.exit i) s J := by simp only [ET, reduceCtorEq, if_false]; exact h
theorem dM (h : ET LP ks .ret s J) : ET LP (.seq c :: ks) .ret s J := by simp only [ET, reduceCtorEq, if_false]; exact h
theorem ET.loop (h : Run LP ks (.loop c) s J) : ET LP (.loop c :: ks) .normal s J := by simp only [ET, if_true]; exact h
theorem YU {i : Nat} (h : ET LP ks (.exit i) s J) : ET LP (.loop c :: ks) (.exit i) s J := by simp only [ET, reduceCtorEq, if_false]; exact h
theorem aA (h : ET LP ks .ret s J) : ET LP (.loop c :: ks) .ret s J := by simp only [ET, reduceCtorEq, if_false]; exact h
theorem ET.block {id : Nat} (h : ET LP ks .normal s J) : ET LP (.block id :: ks) .normal s J := by simp only [ET, reduceCtorEq, if_false]; exact h
theorem ET.block_exit {id : Nat} (h : ET LP ks .normal s J) : ET LP (.block id :: ks) (.exit id) s J := by simp only [ET, if_true]; exact h
theorem ET.block_pass {id i : Nat} (hi : i ≠ id) (h : ET LP ks (.exit i) s J) : ET LP (.block id :: ks) (.exit i) s J := by simp only [ET, zk.exit.injEq, hi, if_false]; exact h
theorem ET.block_ret {id : Nat} (h : ET LP ks .ret s J) : ET LP (.block id :: ks) .ret s J := by simp only [ET, reduceCtorEq, if_false]; exact h
theorem Run.skip (h : ET LP ks .normal s J) : Run LP ks .skip s J := ⟨_, _, .skip, h⟩
theorem Run.exit {i : Nat} (h : ET LP ks (.exit i) s J) : Run LP ks (.exit i) s J := ⟨_, _, .exit, h⟩
theorem Run.ret (h : ET LP ks .ret s J) : Run LP ks .ret s J := ⟨_, _, .ret, h⟩
theorem Run.seq (h : Run LP (.seq b :: ks) a s J) : Run LP ks (.seq a b) s J := by
 obtain ⟨j, s', h1, h2⟩ := h
 by_cases hj : j = .normal
 ·subst hj
  simp only [ET, if_true] at h2
  obtain ⟨j', s'', h3, h4⟩ := h2
  exact ⟨j', s'', .seq h1 h3, h4⟩
 ·simp only [ET, hj, if_false] at h2
  exact ⟨j, s', .seq_jump h1 hj, h2⟩
theorem Run.block {id : Nat} (h : Run LP (.block id :: ks) c s J) : Run LP ks (.block id c) s J := by
 obtain ⟨j, s', h1, h2⟩ := h
 cases j with
 | normal => simp only [ET, reduceCtorEq, if_false] at h2; exact ⟨_, _, .block h1, h2⟩
 | ret => simp only [ET, reduceCtorEq, if_false] at h2; exact ⟨_, _, .block_ret h1, h2⟩
 | exit i =>
  by_cases hi : i = id
  ·subst hi; simp only [ET, if_true] at h2; exact ⟨_, _, .block_exit h1, h2⟩
  ·simp only [ET, zk.exit.injEq, hi, if_false] at h2; exact ⟨_, _, .block_pass h1 hi, h2⟩
theorem Run.scope (h : Run LP ks c s J) : Run LP ks (.scope c) s J := by
 obtain ⟨j, s', h1, h2⟩ := h
 exact ⟨j, s', .scope h1, h2⟩
theorem Run.cond {x : Opd} {v : Bool} (hv : s.val LP x = .d (.bool v)) (h : Run LP ks (if v = true then a else b) s J) : Run LP ks (.cond x a b) s J := by
 obtain ⟨j, s', h1, h2⟩ := h
 exact ⟨j, s', .cond (c := v) (by rw [hv]; rfl) h1, h2⟩
theorem Run.condT {x : Opd} (hv : s.val LP x = .d (.bool true)) (h : Run LP ks a s J) : Run LP ks (.cond x a b) s J := Run.cond hv h
theorem Run.condF {x : Opd} (hv : s.val LP x = .d (.bool false)) (h : Run LP ks b s J) : Run LP ks (.cond x a b) s J := Run.cond hv h
def qy (keep : List Nat) : Option St → Option (Env × List Fr)
 | some s => some (s.env.keep keep, s.low)
 | none => none
theorem Run.ops {ops : List AD} {keep : List Nat} {e e' : Env} {low low' : List Fr} {ctr : Nat} (h : qy keep (evalOps LP (om LP) ctr ops ⟨e, low, ctr + ops.length⟩) = some (e', low'))
  (h' : ∀ ctr', ET LP ks .normal ⟨e', low', ctr'⟩ J) : Run LP ks (.ops ops keep) ⟨e, low, ctr⟩ J := by
 cases he : evalOps LP (om LP) ctr ops ⟨e, low, ctr + ops.length⟩ with
 | none => rw [he] at h; simp [qy] at h
 | some s' =>
  rw [he] at h
  simp only [qy, Option.some.injEq, Prod.mk.injEq] at h
  obtain ⟨rfl, rfl⟩ := h
  exact ⟨.normal, { s' with env := s'.env.keep keep }, .ops (NK he), h' s'.ctr⟩
theorem mZ (h : Run LP (.loop c :: ks) c s J) : Run LP ks (.loop c) s J := by
 obtain ⟨j, s', h1, h2⟩ := h
 by_cases hj : j = .normal
 ·subst hj
  simp only [ET, if_true] at h2
  obtain ⟨j', s'', h3, h4⟩ := h2
  exact ⟨j', s'', .loop h1 h3, h4⟩
 ·simp only [ET, hj, if_false] at h2
  exact ⟨j, s', .loop_jump h1 hj, h2⟩
end
def turns {σ ρ : Type} (f : σ → Option (σ ⊕ ρ)) : Nat → σ → Option ρ
 | 0, _ => none
 | n + 1, x => match f x with
  | none => none
  | some (.inr r) => some r
  | some (.inl x') => turns f n x'
theorem Zk {σ ρ : Type} {f : σ → Option (σ ⊕ ρ)} : ∀ {n m : Nat} {x : σ} {r : ρ}, n ≤ m → turns f n x = some r → turns f m x = some r
 | 0, _, _, _, _, h => by simp [turns] at h
 | n + 1, 0, _, _, hm, _ => by omega
 | n + 1, m + 1, x, r, hm, h => by
  simp only [turns] at h ⊢
  split at h
  ·simp at h
  ·exact h
  ·exact Zk (by omega) h
open Classical in
noncomputable def Loop {σ ρ : Type} (f : σ → Option (σ ⊕ ρ)) (x : σ) : Option ρ := if h : ∃ r, ∃ n, turns f n x = some r then some h.choose else none
theorem ND {σ ρ : Type} {f : σ → Option (σ ⊕ ρ)} {x : σ} {r : ρ} : Loop f x = some r ↔ ∃ n, turns f n x = some r := by
 constructor
 ·intro h
  simp only [Loop] at h
  split at h
  ·rename_i h'
   simp only [Option.some.injEq] at h
   exact h ▸ h'.choose_spec
  ·simp at h
 ·intro h
  have h' : ∃ r, ∃ n, turns f n x = some r := ⟨r, h⟩
  simp only [Loop, dif_pos h', Option.some.injEq]
  obtain ⟨n, hn⟩ := h'.choose_spec
  obtain ⟨m, hm⟩ := h
  have h1 := Zk (Nat.le_max_left n m) hn
  have h2 := Zk (Nat.le_max_right n m) hm
  rw [h1] at h2
  exact Option.some.inj h2
theorem Loop.step {σ ρ : Type} {f : σ → Option (σ ⊕ ρ)} {x x' : σ} (h : f x = some (.inl x')) : Loop f x = Loop f x' := by
 apply Option.ext
 intro r
 rw [ND, ND]
 constructor
 ·rintro ⟨n, hn⟩
  cases n with
  | zero => simp [turns] at hn
  | succ n => simp only [turns, h] at hn; exact ⟨n, hn⟩
 ·rintro ⟨n, hn⟩
  exact ⟨n + 1, by simp only [turns, h]; exact hn⟩
theorem Loop.done {σ ρ : Type} {f : σ → Option (σ ⊕ ρ)} {x : σ} {r : ρ} (h : f x = some (.inr r)) : Loop f x = some r :=
 ND.mpr ⟨1, by simp only [turns, h]⟩
theorem Run.loop {LP : Aw} {ks : List gG} {c : B6} {σ ρ : Type} {f : σ → Option (σ ⊕ ρ)} {E : σ → St → Prop} {J : zk → St → Prop} {r : ρ}
  (hs : ∀ x s out, E x s → f x = some out → (∀ x', out = .inl x' → ∀ s', E x' s' → Run LP ks (.loop c) s' J) → (∀ r', out = .inr r' → r' = r) → Run LP (.loop c :: ks) c s J)
  {x : σ} {s : St} (he : E x s) (hl : Loop f x = some r) : Run LP ks (.loop c) s J := by
 obtain ⟨n, hn⟩ := ND.mp hl
 clear hl
 induction n generalizing x s with
 | zero => simp [turns] at hn
 | succ n ih =>
  simp only [turns] at hn
  apply mZ
  cases ho : f x with
  | none => rw [ho] at hn; simp at hn
  | some out =>
   rw [ho] at hn
   refine hs x s out he ho ?_ ?_
   ·rintro x' rfl s' hs'
    exact ih hs' hn
   ·rintro r' rfl
    exact Option.some.inj hn
class E6 (α : Type) extends Enc α where
 len : ∀ x : α, (Enc.cells x).length = Enc.n α
 ok : ∀ x : α, ((Enc.cells x).map LV.d).all LV.cellOk = true
class LX (α : Type) extends E6 α where
 agg : ∀ x : α, Enc.enc x = .agg (Enc.cells x)
class Bj (α : Type) extends LX α where
 key : α → List Int
 hkey : ∀ x : α, Enc.cells x = (key x).map .int
instance : E6 Int := ⟨fun _ => rfl, fun _ => rfl⟩
instance : E6 Bool := ⟨fun _ => rfl, fun _ => rfl⟩
inductive Fv where
 | nil
 | mk (f : Nat) (first cap : List DV)
 deriving Inhabited
def Fv.dv : Fv → DV
 | nil => .nilfn
 | mk f a b => .fn f a b
instance : Enc Fv := ⟨1, fun x => [x.dv], Fv.dv, fun x => by cases x <;> rfl⟩
inductive Mp (n : Nat) (α : Type) where
 | nil
 | mk (es : List (List Int × α))
 deriving Inhabited
section
variable {α : Type} [Enc α] {n : Nat}
def Mp.dv : Mp n α → DV
 | nil => .nilmap
 | mk es => .fmap n (es.map fun p => (p.1, Enc.enc p.2))
instance : Enc (Mp n α) := ⟨1, fun x => [x.dv], Mp.dv, fun x => by cases x <;> rfl⟩
end
structure Ar (n : Nat) (α : Type) where
 l : List α
 h : l.length = n
instance {n : Nat} {α : Type} [Enc α] : Enc (Ar n α) := ⟨n * Enc.n α, fun x => x.l.flatMap Enc.cells, fun x => .agg (x.l.flatMap Enc.cells), fun _ => rfl⟩
def Ar.ix {n : Nat} {α : Type} (x : Ar n α) (i : Int) : Option α := if 0 ≤ i then x.l[i.toNat]? else none
def Ar.put {n : Nat} {α : Type} (x : Ar n α) (i : Int) (v : α) : Ar n α := ⟨x.l.set i.toNat v, by rw [List.length_set]; exact x.h⟩
section
variable {α : Type} (x : Sl α)
theorem eV : x.spent.len = x.len := by cases x <;> rfl
theorem Wq : x.spent.spent = x.spent := by cases x <;> rfl
theorem yZ : x.spent.l = x.l := by cases x <;> rfl
theorem i9 (i : Int) : x.spent.ix i = x.ix i := by cases x <;> rfl
theorem eB (xs : List α) : (Sl.hot xs).spent = .cold xs := rfl
theorem Y9 (xs : List α) : (Sl.cold xs).spent = .cold xs := rfl
theorem fQ : (Sl.nil : Sl α).spent = .nil := rfl
theorem Y5 (xs : List α) : (Sl.full xs).spent = .full xs := rfl
variable [Enc α]
theorem ff : LV.cellOk (.d (Enc.enc x)) = true := by cases x <;> rfl
theorem pj : LV.cellOk x.lv = true := by cases x <;> rfl
theorem Z4 : LV.known (.d (Enc.enc x)) = some [.d (Enc.enc x)] := by cases x <;> rfl
theorem Ta : LV.known x.lv = some [x.lv] := by cases x <;> rfl
theorem jF : Enc.cells x = [Enc.enc x] := rfl
theorem sR : LV.toD x.lv = some (Enc.enc x) := by cases x <;> rfl
theorem pJ (xs : List α) : (Sl.cold xs).lv = .d (Enc.enc (Sl.cold xs)) := rfl
theorem sB : (Sl.nil : Sl α).lv = .d .nils := rfl
theorem pY : Enc.enc (Sl.nil : Sl α) = .nils := rfl
theorem Jp (k t : Nat) : KI k t (.v x.lv) = x.spent.lv := by cases x <;> rfl
theorem kN : td (.d (Enc.enc x)) = some (.d (.int x.len)) := by cases x <;> simp [td, fy, LR, Enc.enc, Sl.dv, Sl.len, Sl.l]
theorem jz : td x.lv = some (.d (.int x.len)) := by cases x <;> simp [td, fy, LR, Sl.lv, Sl.len, Sl.l]
theorem PQ : Enc.enc x.spent = Enc.enc x := by cases x <;> rfl
theorem kH : Enc.enc x.cool = Enc.enc x := by cases x <;> rfl
theorem pm {i : Int} {a : α} {sz : Nat} (h : x.ix i = some a) (hz : Enc.n α = sz) : mc sz (.d (Enc.enc x)) (.d (.int i)) = some (.d (.fptr (Enc.cells a) 0)) := by
 unfold Sl.ix at h
 split at h
 ·rename_i hi
  cases x <;> simp_all [Sl.l, mc, LR, E1, Enc.enc, Sl.dv, Enc.law]
  all_goals (obtain ⟨hl, rfl⟩ := List.getElem?_eq_some_iff.mp h; exact (Enc.law _).symm ▸ rfl)
 ·simp at h
theorem uY {i : Int} {a : α} {sz : Nat} (h : x.ix i = some a) (hz : Enc.n α = sz) : mc sz x.lv (.d (.int i)) = some (.d (.fptr (Enc.cells a) 0)) := by
 have := pm x h hz
 cases x <;> exact this
end
section
variable {α : Type} [LX α] (x : α)
theorem Pg : LV.known (.d (Enc.enc x)) = some ((Enc.cells x).map .d) := by rw [LX.agg]; rfl
theorem qe {n : Nat} (hn : Enc.n α = n) : ZK n (.d (Enc.enc x)) = some ((Enc.cells x).map .d) := by
 simp only [ZK, Pg, List.length_map, E6.len, hn, E6.ok, and_self, if_true]
end
theorem je (a : Int) : ZK 1 (.d (.int a)) = some [.d (.int a)] := rfl
theorem eU (a : Bool) : ZK 1 (.d (.bool a)) = some [.d (.bool a)] := rfl
theorem pN {α : Type} [Enc α] (x : Sl α) : ZK 1 (.d (Enc.enc x)) = some [.d (Enc.enc x)] := by
 simp [ZK, Z4, ff]
theorem I8 (v : DV) : (LV.d v).copy = .d v := rfl
theorem O7 (cs : List DV) : AW (cs.map .d) = some cs := by
 induction cs with
 | nil => rfl
 | cons c cs ih => simp [AW, LV.toD, ih]
theorem aE (k : Option Nat) (off : Nat) (cs : List DV) : part k off (cs.map .d) = (Ak k off cs).map .d := by
 cases k with
 | none => simp only [part, Ak, List.getElem?_map, Option.map_map]; rfl
 | some n =>
  have hm : (((cs.map LV.d).drop off).take n).map LV.copy = ((cs.drop off).take n).map LV.d := by
   rw [← List.map_drop, ← List.map_take, List.map_map]
   rfl
  have hl : (((cs.map LV.d).drop off).take n).length = ((cs.drop off).take n).length := by
   rw [← List.map_drop, ← List.map_take, List.length_map]
  simp only [part, Ak, hm, hl]
  split
  ·simp only [LV.norm, LV.toD, O7, Option.map_some]
  ·rfl
theorem kY (k : Option Nat) (off : Nat) (cs : List DV) : Jr k off (.d (.agg cs)) = (Ak k off cs).map .d := rfl
theorem M7 {α : Type} [LX α] (x : α) (k : Option Nat) (off : Nat) : Jr k off (.d (Enc.enc x)) = (Ak k off (Enc.cells x)).map .d := by rw [LX.agg]; rfl
theorem Y0 (k : Option Nat) (off g : Nat) (cs : List DV) : GX k off g (some (.box g (cs.map .d))) = (Ak k off cs).map .d := by simp only [GX, if_true, aE]
theorem VJ (g : Nat) (v : DV) : GX none 0 g (some (.box g [.d v])) = some (.d v) := by simp [GX, part, LV.copy]
theorem IR (s : St) (t g : Nat) : s.cells s.low.length t g = match s.raw t with
  | some (.box g' cs) => if g' = g then some cs else none
  | _ => none := by
 simp only [St.cells, St.at, if_true, St.raw]
 cases s.env.get t with
 | none => rfl
 | some x => cases x <;> rfl
theorem eP (s : St) (k : Option Nat) (j t g off : Nat) (hj : j = s.low.length) : Qb s k none (.ptr j t g off) = GX k off g (s.raw t) := by
 subst hj
 simp only [Qb, An, if_true, IR]
 cases s.raw t with
 | none => rfl
 | some x => cases x with
  | box g' cs =>
   simp only [GX]
   by_cases hg : g' = g
   ·simp only [if_pos hg]
   ·simp only [if_neg hg]
  | _ => rfl
theorem Y1 (s : St) (k : Option Nat) (j t g off : Nat) (hj : j = s.low.length) : Qb s k (some (some t)) (.ptr j t g off) = GX k off g (s.raw t) := by
 subst hj
 have h : An s.low.length (some (some t)) (some (.ptr s.low.length t g off)) = true := by simp [An]
 simp only [Qb, h, if_true, IR]
 cases s.raw t with
 | none => rfl
 | some x => cases x with
  | box g' cs =>
   simp only [GX]
   by_cases hg : g' = g
   ·simp only [if_pos hg]
   ·simp only [if_neg hg]
  | _ => rfl
theorem ZC (s : St) (k : Option Nat) (ro : Option (Option Nat)) (cs : List DV) (off : Nat) : Qb s k ro (.d (.fptr cs off)) = (Ak k off cs).map .d := by
 have h : An s.low.length ro (some (.d (.fptr cs off))) = true := by cases ro <;> rfl
 simp only [Qb, h, if_true]
theorem Zf (off j t g o : Nat) : Hz off (.ptr j t g o) = some (.ptr j t g (o + off)) := rfl
theorem WH (off : Nat) (cs : List DV) (o : Nat) : Hz off (.d (.fptr cs o)) = some (.d (.fptr cs (o + off))) := rfl
theorem ZW (k : Nat) (p : Option LV) : An k none p = true := rfl
theorem Yt (j k t g off : Nat) (h : j = k) : An k (some (some t)) (some (.ptr j t g off)) = true := by simp [An, h]
theorem U4 (k : Nat) (ro : Option (Option Nat)) (v : DV) : An k ro (some (.d v)) = true := by cases ro <;> rfl
def lE (s : St) : Opd → Option A6
 | .tmp u => s.raw u
 | .con v => some (.v (.d v))
 | .glob _ => none
section
variable (LP : Aw) (C : AM)
def RF (g : Nat) (r : List AD) (s : St) (n t g' off : Nat) (x : Opd) : Option A6 → Option St
 | some (.v (.d v)) => gJ LP C g r ((GH n off g' (LV.known (.d v)) (s.raw t)).map fun b => s.upd t b)
 | some (.v (.hot z xs)) => match x with
  | .tmp u => gJ LP C g r ((GH n off g' (some [.hot z xs]) (if u = t then some (.v (.d (.slice z xs))) else s.raw t)).map fun b => (s.upd u (.v (.d (.slice z xs)))).upd t b)
  | _ => none
 | _ => IK LP C g r s n (.ptr s.low.length t g' off) x
variable {LP C} (g : Nat) (r : List AD) (s : St)
theorem Yx (n j t g' off : Nat) (x : Opd) (hj : j = s.low.length) : IK LP C g r s n (.ptr j t g' off) x = RF LP C g r s n t g' off x (lE s x) := by
 subst hj
 have main : ∀ (y : LV) (s1 : St), s1.low = s.low → s.take LP x = (y, s1) → IK LP C g r s n (.ptr s.low.length t g' off) x = gJ LP C g r ((GH n off g' y.known (s1.raw t)).map fun b => s1.upd t b) := by
  intro y s1 hl ht
  simp only [IK, ht]
  rw [← hl, IR]
  cases hx : s1.raw t with
  | none => rfl
  | some z => cases z with
   | box g2 cs =>
    simp only [GH]
    by_cases hg : g2 = g'
    ·subst hg
     simp only [if_true]
     cases y.known with
     | none => rfl
     | some xs =>
      simp only
      by_cases hc : xs.length = n ∧ off + n ≤ cs.length ∧ xs.all LV.cellOk = true
      ·simp only [if_pos hc, Option.map_some, St.setAt, hl, if_true, St.upd]
      ·simp only [if_neg hc]; rfl
    ·simp only [if_neg hg]
     cases y.known <;> rfl
   | _ => rfl
 cases x with
 | con v => exact main (.d v) s rfl rfl
 | glob n => rfl
 | tmp u =>
  simp only [lE]
  cases hu : s.raw u with
  | none => rfl
  | some z => cases z with
   | v z => cases z with
    | d v => exact main (.d v) s rfl (by simp only [St.take]; unfold St.raw at hu; simp only [hu, St.slot, LV.copy])
    | hot z xs =>
     rw [main (.hot z xs) (s.upd u (.v (.d (.slice z xs)))) rfl (by simp only [St.take]; unfold St.raw at hu; simp only [hu]; rfl)]
     simp only [RF, A2, LV.known]
    | _ => rfl
   | _ => rfl
end
theorem uv {n g : Nat} {xs cs : List LV} (h1 : cs.length = n) (h2 : xs.length = n) (h3 : xs.all LV.cellOk = true) : GH n 0 g (some xs) (some (.box g cs)) = some (.box g xs) := by
 simp only [GH, if_true, h1, h2, h3, Nat.zero_add, Nat.le_refl, and_self, Option.some.injEq, A6.box.injEq, true_and]
 simp [setCells, h1, h2]
def A5 (C : AM) (f : Nat) (ds : List DV) : Option LV := match C.call f (ds.map .d) [] 0 with
 | some (v, _, _) => v.toD.map .d
 | none => none
def tA (C : AM) (f : Nat) : Option (List DV) → Option LV
 | some ds => A5 C f ds
 | none => none
theorem jd (C : AM) (f : Nat) (args : List LV) : gX C (.d (.fn f [] [])) args = tA C f (AW args) := by
 simp only [gX, target, List.map_nil]
 cases AW args with
 | none => rfl
 | some ds => simp only [AW, List.nil_append, List.append_nil]; rfl
theorem Ub (C : AM) (f : Nat) (ds : List DV) : tA C f (some ds) = A5 C f ds := rfl
theorem bR : AW [] = some [] := rfl
theorem ob (v : DV) (r : List LV) : AW (.d v :: r) = (AW r).map (v :: ·) := by
 simp only [AW, LV.toD]; cases AW r <;> rfl
theorem nc {α : Type} [Enc α] (x : Sl α) (r : List LV) : AW (x.lv :: r) = (AW r).map (Enc.enc x :: ·) := by
 simp only [AW, sR]; cases AW r <;> rfl
theorem ee {α β : Type} [Enc α] [Enc β] (x : α × β) : qb 0 (some (.v (.d (Enc.enc x)))) = some (.d (Enc.enc x.1)) := rfl
theorem ZR {α β : Type} [Enc α] [Enc β] (x : α × β) : qb 1 (some (.v (.d (Enc.enc x)))) = some (.d (Enc.enc x.2)) := rfl
theorem ou (x : Int) : Enc.enc x = .int x := rfl
theorem kA (x : Bool) : Enc.enc x = .bool x := rfl
theorem ev (x : Int) : Enc.cells x = [.int x] := rfl
theorem Zc (x : Bool) : Enc.cells x = [.bool x] := rfl
theorem eA (x : DV) : Ak none 0 [x] = some x := rfl
theorem V5 (LP : Aw) (s : St) (t : Nat) : s.val LP (.tmp t) = s.slot t := rfl
theorem pC (LP : Aw) (s : St) (v : DV) : s.val LP (.con v) = .d v := rfl
theorem nL (a b : LV) : pM (.d (.bool true)) a b = some a := rfl
theorem nP (a b : LV) : pM (.d (.bool false)) a b = some b := rfl
theorem j7 (a b : Int) : gQ .add (.d (.int a)) (.d (.int b)) = some (.d (.int (W (a + b)))) := rfl
theorem j5 (a b : Int) : gQ .sub (.d (.int a)) (.d (.int b)) = some (.d (.int (W (a - b)))) := rfl
theorem kW (a b : Int) : gQ .mul (.d (.int a)) (.d (.int b)) = some (.d (.int (W (a * b)))) := rfl
theorem aX (a b : Int) : gQ .lss (.d (.int a)) (.d (.int b)) = some (.d (.bool (decide (a < b)))) := rfl
theorem b9 (a b : Int) : gQ .leq (.d (.int a)) (.d (.int b)) = some (.d (.bool (decide (a ≤ b)))) := rfl
theorem Zn (a b : Int) : gQ .gtr (.d (.int a)) (.d (.int b)) = some (.d (.bool (decide (b < a)))) := rfl
theorem cK (a b : Int) : gQ .geq (.d (.int a)) (.d (.int b)) = some (.d (.bool (decide (b ≤ a)))) := rfl
theorem av (a b : Int) : gQ .eql (.d (.int a)) (.d (.int b)) = some (.d (.bool (decide (a = b)))) := by
 show (BZ (binOp .eql 0 (.int .i64 a) (.int .i64 b))).map LV.d = _
 rw [vT]; rfl
theorem ah (a b : Int) : gQ .neq (.d (.int a)) (.d (.int b)) = some (.d (.bool (!decide (a = b)))) := by
 show (BZ (binOp .neq 0 (.int .i64 a) (.int .i64 b))).map LV.d = _
 rw [ve]; rfl
theorem nj (b : Bool) : vUn .not (.d (.bool b)) = some (.d (.bool (!b))) := rfl
theorem u5 (keep : List Nat) (s : St) : qy keep (some s) = some (s.env.keep keep, s.low) := rfl
def Zt : List Nat → St → Env
 | [], _ => []
 | t :: ts, s => match s.raw t with
  | some x => (t, x) :: Zt ts s
  | none => Zt ts s
theorem yX (ks : List Nat) (s : St) : s.env.keep ks = Zt ks s := by
 induction ks with
 | nil => rfl
 | cons t ts ih =>
  simp only [Env.keep, List.filterMap_cons, Zt, St.raw] at *
  cases s.env.get t with
  | none => exact ih
  | some x => simp only [Option.map_some]; rw [ih]
def wI (t : Nat) (ts : List Nat) (s : St) : Option A6 → Env
 | some x => (t, x) :: Zt ts s
 | none => Zt ts s
theorem vD (t : Nat) (ts : List Nat) (s : St) : Zt (t :: ts) s = wI t ts s (s.raw t) := rfl
theorem vC (t : Nat) (ts : List Nat) (s : St) (x : A6) : wI t ts s (some x) = (t, x) :: Zt ts s := rfl
theorem vR (s : St) : Zt [] s = [] := rfl
instance {α : Type} [Enc α] : E6 (Sl α) := ⟨fun _ => rfl, fun x => by cases x <;> rfl⟩
instance : E6 Fv := ⟨fun _ => rfl, fun x => by cases x <;> rfl⟩
instance {n : Nat} {α : Type} [Enc α] : E6 (Mp n α) := ⟨fun _ => rfl, fun x => by cases x <;> rfl⟩
theorem jy {α : Type} [E6 α] : ∀ l : List α, (l.flatMap Enc.cells).length = l.length * Enc.n α
 | [] => by simp
 | x :: l => by simp only [List.flatMap_cons, List.length_append, E6.len, jy l, List.length_cons]; rw [Nat.add_mul, Nat.one_mul, Nat.add_comm]
theorem gV {α : Type} [E6 α] : ∀ l : List α, ((l.flatMap Enc.cells).map LV.d).all LV.cellOk = true
 | [] => rfl
 | x :: l => by rw [List.flatMap_cons, List.map_append, List.all_append, E6.ok, gV l]; rfl
instance {n : Nat} {α : Type} [E6 α] : LX (Ar n α) := { len := fun x => by show (x.l.flatMap Enc.cells).length = n * Enc.n α; rw [jy, x.h], ok := fun x => gV x.l, agg := fun _ => rfl }
theorem xf {n : Nat} {α : Type} [Enc α] (x : Ar n α) : Enc.cells x = x.l.flatMap Enc.cells := rfl
theorem LH : ∀ l : List Int, l.flatMap Enc.cells = l.map DV.int
 | [] => rfl
 | x :: l => by rw [List.flatMap_cons, LH l]; rfl
instance {n : Nat} : Bj (Ar n Int) := { key := fun x => x.l, hkey := fun x => LH x.l }
theorem dX (a : Int) : LV.known (.d (.int a)) = some [.d (.int a)] := rfl
theorem Yy (a : Bool) : LV.known (.d (.bool a)) = some [.d (.bool a)] := rfl
theorem ZU : LV.known (.d .nils) = some [.d .nils] := rfl
theorem jB (a : Fv) : LV.known (.d (Enc.enc a)) = some [.d (Enc.enc a)] := by cases a <;> rfl
theorem kQ {n : Nat} {α : Type} [Enc α] (a : Mp n α) : LV.known (.d (Enc.enc a)) = some [.d (Enc.enc a)] := by cases a <;> rfl
theorem kP (x : Fv) : Enc.cells x = [Enc.enc x] := rfl
theorem kL {n : Nat} {α : Type} [Enc α] (x : Mp n α) : Enc.cells x = [Enc.enc x] := rfl
theorem nf (x : Fv) : ZK 1 (.d (Enc.enc x)) = some [.d (Enc.enc x)] := by cases x <;> rfl
theorem da : ZK 1 (.d .nils) = some [.d .nils] := rfl
theorem ov {α : Type} [Enc α] (x : Sl α) : ZK 1 x.lv = some [x.lv] := by cases x <;> rfl
def Da (n off : Nat) (xs cs : List LV) : Option (List LV) := if xs.length = n ∧ off + n ≤ cs.length ∧ xs.all LV.cellOk then some (setCells cs off xs) else none
theorem ZD (n off g : Nat) (xs cs : List LV) : GH n off g (some xs) (some (.box g cs)) = (Da n off xs cs).map fun c => .box g c := by
 simp only [GH, Da, if_true]
 by_cases h : xs.length = n ∧ off + n ≤ cs.length ∧ xs.all LV.cellOk = true
 ·simp only [if_pos h, Option.map_some]
 ·simp only [if_neg h, Option.map_none]
theorem Y7 {α : Type} [LX α] (x : α) {n : Nat} {cs : List LV} (h1 : cs.length = n) (h2 : Enc.n α = n) : Da n 0 ((Enc.cells x).map LV.d) cs = some ((Enc.cells x).map LV.d) := by
 have h3 := E6.len x
 have h4 := E6.ok x
 simp only [Da, List.length_map, h3, h2, h4, Nat.zero_add, h1, Nat.le_refl, and_self, if_true]
 simp [setCells, h1, h2, h3]
theorem FP {y : LV} (c : LV) (h : y.cellOk = true) : Da 1 0 [y] [c] = some [y] := by
 simp [Da, h, setCells]
theorem Za (c : LV) (a : Int) : Da 1 0 [.d (.int a)] [c] = some [.d (.int a)] := FP c rfl
theorem Vz (c : LV) (a : Bool) : Da 1 0 [.d (.bool a)] [c] = some [.d (.bool a)] := FP c rfl
theorem fX {α : Type} [Enc α] (c : LV) (a : Sl α) : Da 1 0 [.d (Enc.enc a)] [c] = some [.d (Enc.enc a)] := FP c (ff a)
theorem fO {α : Type} [Enc α] (c : LV) (a : Sl α) : Da 1 0 [a.lv] [c] = some [a.lv] := FP c (pj a)
theorem dW (c : LV) (a : Fv) : Da 1 0 [.d (Enc.enc a)] [c] = some [.d (Enc.enc a)] := FP c (by cases a <;> rfl)
theorem cj {α : Type} [E6 α] (x : α) : ((Enc.cells x).map LV.d).length = Enc.n α := by rw [List.length_map, E6.len]
theorem IG {α : Type} {x v : Sl α} {lo hi : Option Int} (h : x.sub lo hi = some v) : (∀ a, lo = some a → 0 ≤ a) ∧ (∀ a, hi = some a → 0 ≤ a) := by
 have : 0 ≤ lo.getD 0 ∧ 0 ≤ hi.getD 0 := by
  cases x <;> simp only [Sl.sub] at h <;> split at h <;> rename_i hc <;> first | (cases h; done) | (cases hi <;> simp_all <;> omega)
 constructor
 ·rintro a rfl; exact this.1
 ·rintro a rfl; exact this.2
section
variable {LP : Aw} {C : AM} {α : Type} [Enc α]
theorem dt (g : Nat) (r : List AD) (s : St) (n t g' off : Nat) (x : Opd) (v : DV) : RF LP C g r s n t g' off x (some (.v (.d v))) = gJ LP C g r ((GH n off g' (LV.known (.d v)) (s.raw t)).map fun b => s.upd t b) := rfl
theorem MH : ∀ (e : Env) (t : Nat) (x : A6), e.get t = some x → e.set t x = e
 | [], t, x, h => by simp [Env.get] at h
 | (u, y) :: e, t, x, h => by
  simp only [Env.get] at h
  simp only [Env.set]
  by_cases hu : u = t
  ·subst hu; simp only [if_true, Option.some.injEq] at h ⊢; rw [h]
  ·simp only [if_neg hu] at h ⊢; rw [MH e t x h]
theorem Dz (s : St) (t : Nat) (x : A6) (h : s.raw t = some x) : s.upd t x = s := by
 obtain ⟨e, low, ctr⟩ := s
 simp only [St.upd, MH e t x h]
theorem pI (g : Nat) (r : List AD) (s : St) (t : Option Nat) (u : Nat) (x : Sl α) (h : s.raw u = some (.v x.lv)) : dk LP C g r s t u (some (.v x.lv)) = Hj LP C g r (s.upd u (.v x.spent.lv)) t (some x.lv) := by
 have hs : s.slot u = x.spent.lv := by rw [Hh, h]; exact Jp x _ _
 cases x with
 | hot xs => rfl
 | nil => rw [show (Sl.nil : Sl α).spent = Sl.nil from rfl, Dz s u _ h]; exact congrArg (fun y => Hj LP C g r s t (some y)) hs
 | cold xs => rw [show (Sl.cold xs).spent = Sl.cold xs from rfl, Dz s u _ h]; exact congrArg (fun y => Hj LP C g r s t (some y)) hs
 | full xs => rw [show (Sl.full xs).spent = Sl.full xs from rfl, Dz s u _ h]; exact congrArg (fun y => Hj LP C g r s t (some y)) hs
theorem qm (g : Nat) (r : List AD) (s : St) (t : Option Nat) (u : Nat) (v : DV) (h : s.raw u = some (.v (.d v))) : dk LP C g r s t u (some (.v (.d v))) = Hj LP C g r s t (some (.d v)) := by
 have hs : s.slot u = .d v := by rw [Hh, h]; rfl
 simp only [dk, hs]
theorem VH (g : Nat) (r : List AD) (s : St) (t : Option Nat) (u sz q : Nat) (y : LV) (x : Sl α) (h : s.raw u = some (.v x.lv)) : eH LP C g r s t u sz q y (some (.v x.lv)) = Hj LP C g r (s.upd u (.v x.spent.lv)) t (A9 sz q x.lv y) := by
 have hs : s.slot u = x.spent.lv := by rw [Hh, h]; exact Jp x _ _
 cases x with
 | hot xs => rfl
 | nil => rw [show (Sl.nil : Sl α).spent = Sl.nil from rfl, Dz s u _ h]; exact congrArg (fun z => Hj LP C g r s t (A9 sz q z y)) hs
 | cold xs => rw [show (Sl.cold xs).spent = Sl.cold xs from rfl, Dz s u _ h]; exact congrArg (fun z => Hj LP C g r s t (A9 sz q z y)) hs
 | full xs => rw [show (Sl.full xs).spent = Sl.full xs from rfl, Dz s u _ h]; exact congrArg (fun z => Hj LP C g r s t (A9 sz q z y)) hs
theorem xK (g : Nat) (r : List AD) (s : St) (t : Option Nat) (u sz q : Nat) (y : LV) (v : DV) (h : s.raw u = some (.v (.d v))) : eH LP C g r s t u sz q y (some (.v (.d v))) = Hj LP C g r s t (A9 sz q (.d v) y) := by
 have hs : s.slot u = .d v := by rw [Hh, h]; rfl
 simp only [eH, hs]
theorem jP {q : Nat} {x r : Sl α} {ys : List α} {Y : LV} (hY : Y ≠ .d .nils) (hE : LR Y = some (Enc.n α, ys.map Enc.enc)) (h : x.app q ys = some r) : A9 (Enc.n α) q x.lv Y = some r.lv := by
 have e : A9 (Enc.n α) q x.lv Y = match x.lv with
   | .d .nils => if ys.map (Enc.enc (α := α)) = [] then some (.d .nils) else if I7 (ys.map (Enc.enc (α := α))).length q then some (.hot (Enc.n α) (ys.map Enc.enc)) else none
   | .full z xs => if z = Enc.n α then (if ys.map (Enc.enc (α := α)) = [] then some (.full z xs) else if I7 (xs.length + (ys.map (Enc.enc (α := α))).length) q then some (.hot (Enc.n α) (xs ++ ys.map Enc.enc)) else none) else none
   | .hot z xs => if z = Enc.n α ∧ I7 (xs.length + (ys.map (Enc.enc (α := α))).length) q = true then some (.hot (Enc.n α) (xs ++ ys.map Enc.enc)) else none
   | _ => none := by
  unfold A9
  split
  ·exact absurd rfl hY
  ·simp only [hE, ne_eq, not_true_eq_false, if_false]
   rfl
 rw [e]
 cases x with
 | nil =>
  simp only [Sl.app] at h
  simp only [Sl.lv, List.map_eq_nil_iff, List.length_map]
  by_cases h1 : ys = []
  ·rw [if_pos h1] at h ⊢; cases h; rfl
  ·rw [if_neg h1] at h ⊢
   by_cases h2 : I7 ys.length q = true
   ·rw [if_pos h2] at h ⊢; cases h; rfl
   ·rw [if_neg h2] at h; cases h
 | cold xs => simp only [Sl.app] at h; cases h
 | hot xs =>
  simp only [Sl.app] at h
  simp only [Sl.lv, List.length_map, true_and]
  by_cases h2 : I7 (xs.length + ys.length) q = true
  ·rw [if_pos h2] at h ⊢; cases h; simp
  ·rw [if_neg h2] at h; cases h
 | full xs =>
  simp only [Sl.app] at h
  simp only [Sl.lv, List.map_eq_nil_iff, List.length_map, if_true]
  by_cases h1 : ys = []
  ·rw [if_pos h1] at h ⊢; cases h; rfl
  ·rw [if_neg h1] at h ⊢
   by_cases h2 : I7 (xs.length + ys.length) q = true
   ·rw [if_pos h2] at h ⊢; cases h; simp
   ·rw [if_neg h2] at h; cases h
theorem jv {q : Nat} {x r : Sl α} (h : x.app q [] = some r) : A9 (Enc.n α) q x.lv (.d .nils) = some r.lv := by
 cases x with
 | nil => simp only [Sl.app, if_true] at h; cases h; rfl
 | cold xs => simp only [Sl.app] at h; cases h
 | hot xs =>
  simp only [Sl.app, List.append_nil] at h
  simp only [A9, Sl.lv, if_true]
  by_cases h2 : I7 (xs.length + ([] : List α).length) q = true
  ·rw [if_pos h2] at h; cases h; rfl
  ·rw [if_neg h2] at h; cases h
 | full xs => simp only [Sl.app, if_true] at h; cases h; simp [A9, Sl.lv]
theorem m0 {q sz : Nat} {x y r : Sl α} (hz : Enc.n α = sz) (h : x.app q y.l = some r) : A9 sz q x.lv y.lv = some r.lv := by
 subst hz
 cases y with
 | nil => exact jv h
 | _ => exact jP (by simp [Sl.lv]) rfl h
theorem mm {q sz : Nat} {x y r : Sl α} (hz : Enc.n α = sz) (h : x.app q y.l = some r) : A9 sz q x.lv (.d (Enc.enc y)) = some r.lv := by
 subst hz
 cases y with
 | nil => exact jv h
 | _ => exact jP (by simp [Enc.enc, Sl.dv]) rfl h
theorem NN (x : Sl α) : x.cool.lv = .d (Enc.enc x) := by cases x <;> rfl
theorem wU {q sz : Nat} {x y r : Sl α} (hz : Enc.n α = sz) (h : x.cool.app q y.l = some r) : A9 sz q (.d (Enc.enc x)) (.d (Enc.enc y)) = some r.lv := by
 have := mm hz h
 rwa [NN] at this
theorem wH {q sz : Nat} {x y r : Sl α} (hz : Enc.n α = sz) (h : x.cool.app q y.l = some r) : A9 sz q (.d (Enc.enc x)) y.lv = some r.lv := by
 have := m0 hz h
 rwa [NN] at this
theorem yi {q sz : Nat} {x y r : Sl α} {ys : List α} (hz : Enc.n α = sz) (hy : y.l = ys) (h : x.app q ys = some r) : A9 sz q x.lv y.lv = some r.lv := m0 hz (hy ▸ h)
theorem OI {q sz : Nat} {x y r : Sl α} {ys : List α} (hz : Enc.n α = sz) (hy : y.l = ys) (h : x.app q ys = some r) : A9 sz q x.lv (.d (Enc.enc y)) = some r.lv := mm hz (hy ▸ h)
theorem yz {q sz : Nat} {y r : Sl α} {ys : List α} (hz : Enc.n α = sz) (hy : y.l = ys) (h : (Sl.nil : Sl α).app q ys = some r) : A9 sz q (.d .nils) (.d (Enc.enc y)) = some r.lv := mm (x := Sl.nil) hz (hy ▸ h)
theorem yn {q sz : Nat} {y r : Sl α} {ys : List α} (hz : Enc.n α = sz) (hy : y.l = ys) (h : (Sl.nil : Sl α).app q ys = some r) : A9 sz q (.d .nils) y.lv = some r.lv := m0 (x := Sl.nil) hz (hy ▸ h)
theorem yL {q sz : Nat} {x y r : Sl α} {ys : List α} (hz : Enc.n α = sz) (hy : y.l = ys) (h : x.cool.app q ys = some r) : A9 sz q (.d (Enc.enc x)) (.d (Enc.enc y)) = some r.lv := wU hz (hy ▸ h)
theorem yB {q sz : Nat} {x y r : Sl α} {ys : List α} (hz : Enc.n α = sz) (hy : y.l = ys) (h : x.cool.app q ys = some r) : A9 sz q (.d (Enc.enc x)) y.lv = some r.lv := wH hz (hy ▸ h)
theorem xl {q : Nat} {x v : Sl α} {ys : List α} (h : x.app q ys = some v) (hy : ys ≠ []) : v.spent.lv = .d (Enc.enc v) := by
 cases x with
 | nil => simp only [Sl.app, if_neg hy] at h; split at h <;> cases h; rfl
 | cold xs => simp only [Sl.app] at h; cases h
 | hot xs => simp only [Sl.app] at h; split at h <;> cases h; rfl
 | full xs => simp only [Sl.app, if_neg hy] at h; split at h <;> cases h; rfl
theorem xW {q : Nat} {xs : List α} {v : Sl α} {ys : List α} (h : (Sl.hot xs).app q ys = some v) : v.spent.lv = .d (Enc.enc v) := by
 simp only [Sl.app] at h; split at h <;> cases h; rfl
theorem ZL {i : Int} (h : 0 ≤ i) : E1 (.d (.int i)) = some i.toNat := by simp [E1, h]
theorem NM {x v : Sl α} {sz : Nat} {lo hi : Option Int} (hz : Enc.n α = sz) (h : x.sub lo hi = some v) (h0 : ∀ a, lo = some a → 0 ≤ a) (h1 : ∀ a, hi = some a → 0 ≤ a) :
  Nj sz (.d (Enc.enc x)) (lo.map Int.toNat) (hi.map Int.toNat) none = some (.d (Enc.enc v)) := by
 subst hz
 have main : ∀ xs : List α, (if 0 ≤ lo.getD 0 ∧ lo.getD 0 ≤ hi.getD xs.length ∧ hi.getD xs.length ≤ xs.length then some (Sl.cold ((xs.take (hi.getD xs.length).toNat).drop (lo.getD 0).toNat)) else none) = some v →
   Nj (Enc.n α) (.d (.slice (Enc.n α) (xs.map Enc.enc))) (lo.map Int.toNat) (hi.map Int.toNat) none = some (.d (Enc.enc v)) := by
  intro xs h
  split at h
  ·rename_i hc
   cases h
   have e1 : (lo.map Int.toNat).getD 0 = (lo.getD 0).toNat := by cases lo <;> rfl
   have e2 : (hi.map Int.toNat).getD xs.length = (hi.getD xs.length).toNat := by cases hi <;> simp
   simp only [Nj, LR, e1, List.length_map, e2]
   rw [if_pos ⟨trivial, by omega, by omega⟩]
   simp [Enc.enc, Sl.dv, List.map_take, List.map_drop]
  ·cases h
 cases x with
 | nil =>
  simp only [Sl.sub] at h
  split at h
  ·rename_i hc
   cases h
   have e1 : (lo.map Int.toNat).getD 0 = 0 := by cases lo <;> simp_all
   have e2 : (hi.map Int.toNat).getD 0 = 0 := by cases hi <;> simp_all
   simp [Enc.enc, Sl.dv, Nj, e1, e2]
  ·cases h
 | cold xs => exact main xs h
 | hot xs => exact main xs h
 | full xs => exact main xs h
theorem H3 {a : Int} (h : 0 ≤ a) : GZ (some (.d (.int a))) = some (some a.toNat) := by simp [GZ, E1, h]
theorem xX {x v : Sl α} {sz : Nat} (hz : Enc.n α = sz) (h : x.sub none none = some v) : II sz (.d (Enc.enc x)) none none none = some (.d (Enc.enc v)) := by
 have := NM hz h (IG h).1 (IG h).2
 simpa [II, GZ] using this
theorem xJ {x v : Sl α} {sz : Nat} {a : Int} (hz : Enc.n α = sz) (h : x.sub (some a) none = some v) : II sz (.d (Enc.enc x)) (some (.d (.int a))) none none = some (.d (Enc.enc v)) := by
 have := NM hz h (IG h).1 (IG h).2
 simpa [II, H3 ((IG h).1 a rfl), show GZ none = some none from rfl] using this
theorem xh {x v : Sl α} {sz : Nat} {b : Int} (hz : Enc.n α = sz) (h : x.sub none (some b) = some v) : II sz (.d (Enc.enc x)) none (some (.d (.int b))) none = some (.d (Enc.enc v)) := by
 have := NM hz h (IG h).1 (IG h).2
 simpa [II, H3 ((IG h).2 b rfl), show GZ none = some none from rfl] using this
theorem rZ {x v : Sl α} {sz : Nat} {a b : Int} (hz : Enc.n α = sz) (h : x.sub (some a) (some b) = some v) : II sz (.d (Enc.enc x)) (some (.d (.int a))) (some (.d (.int b))) none = some (.d (Enc.enc v)) := by
 have := NM hz h (IG h).1 (IG h).2
 simpa [II, H3 ((IG h).1 a rfl), H3 ((IG h).2 b rfl), show GZ none = some none from rfl] using this
theorem de {x v : Sl α} {sz : Nat} {b : Int} (hz : Enc.n α = sz) (h : x.sub3 none b = some v) : II sz (.d (Enc.enc x)) none (some (.d (.int b))) (some (.d (.int b))) = some v.lv := by
 subst hz
 have main : ∀ xs : List α, (if 0 ≤ (none : Option Int).getD 0 ∧ (none : Option Int).getD 0 ≤ b ∧ b ≤ xs.length then some (Sl.full ((xs.take b.toNat).drop ((none : Option Int).getD 0).toNat)) else none) = some v →
   II (Enc.n α) (.d (.slice (Enc.n α) (xs.map Enc.enc))) none (some (.d (.int b))) (some (.d (.int b))) = some v.lv := by
  intro xs h
  split at h
  ·rename_i hc
   cases h
   simp only [Option.getD_none] at hc
   have hb : 0 ≤ b := by omega
   simp only [II, H3 hb, show GZ none = some none from rfl, Nj, LR, Option.getD_some, Option.getD_none, List.length_map]
   rw [if_pos ⟨trivial, by omega, by omega⟩]
   simp [Sl.lv, List.map_take]
  ·cases h
 cases x with
 | nil =>
  simp only [Sl.sub3] at h
  split at h
  ·rename_i hc
   obtain ⟨_, rfl⟩ := hc
   cases h
   rfl
  ·cases h
 | cold xs => exact main xs h
 | hot xs => exact main xs h
 | full xs => exact main xs h
end
theorem Ig {α : Type} [Enc α] (x : Sl α) : LV.cellOk (.d (Enc.enc x)) = true := by cases x <;> rfl
theorem Fz (x : Int) : LV.cellOk (.d (.int x)) = true := rfl
theorem Ti (j t g : Nat) : LV.cellOk (.mref j t g) = true := rfl
theorem EF (x : Bool) : LV.cellOk (.d (.bool x)) = true := rfl
theorem I1 (x : Fv) : LV.cellOk (.d (Enc.enc x)) = true := by cases x <;> rfl
theorem Ix {n : Nat} {α : Type} [Enc α] (x : Mp n α) : LV.cellOk (.d (Enc.enc x)) = true := by cases x <;> rfl
def St.tick (s : St) (n : Nat) : St := { s with ctr := s.ctr + n }
theorem ji (s : St) (n t : Nat) : (s.tick n).raw t = s.raw t := rfl
theorem eF (s : St) (n t : Nat) : (s.tick n).free t = s.free t := rfl
theorem kG (s : St) (n : Nat) : (s.tick n).low = s.low := rfl
def uc (k t : Nat) : Option A6 → LV
 | some x => KI k t x
 | none => .d .bot
theorem J0 (k t : Nat) (x : A6) : uc k t (some x) = KI k t x := rfl
theorem Lc (s : St) (t : Nat) : s.slot t = uc s.low.length t (s.raw t) := by
 rw [Hh]; cases s.raw t <;> rfl
def NoB (B : List Nat) (s : St) : Prop := ∀ u, B.contains u = false → s.free u = true
def CB : List (Nat × A6) → St → Prop
 | [], _ => True
 | (t, x) :: l, s => s.raw t = some x ∧ CB l s
@[reducible] def Em : List (Nat × A6) → St → Prop
 | [], _ => True
 | (t, x) :: l, s => s.raw t = some x ∧ Em l s
theorem CB.r {s : St} : ∀ {l : List (Nat × A6)}, CB l s → Em l s
 | [], _ => trivial
 | _ :: _, h => ⟨h.1, CB.r h.2⟩
theorem ZS (s : St) : CB [] s = True := rfl
theorem Us (t : Nat) (x : A6) (l : List (Nat × A6)) (s : St) : CB ((t, x) :: l) s = (s.raw t = some x ∧ CB l s) := rfl
theorem JL (ks : List Nat) (e : Env) (t : Nat) : (e.keep ks).get t = if ks.contains t then e.get t else none := by
 induction ks with
 | nil => rfl
 | cons k ks ih =>
  simp only [Env.keep, List.filterMap_cons] at ih ⊢
  rw [List.contains_cons]
  by_cases h : t = k
  ·subst h
   cases he : e.get t with
   | none =>
    simp only [Option.map_none, ih, he]
    simp
   | some x => simp [Env.get, he]
  ·have hk : (t == k) = false := by simpa using h
   rw [hk, Bool.false_or]
   cases he : e.get k with
   | none => simp only [Option.map_none]; exact ih
   | some x =>
    simp only [Option.map_some, Env.get, if_neg (Ne.symm h)]
    exact ih
theorem kR (s : St) (ks : List Nat) (t : Nat) : St.raw { s with env := s.env.keep ks } t = if ks.contains t then s.raw t else none := JL ..
theorem CB.keep {s : St} {ks : List Nat} : ∀ {l : List (Nat × A6)}, l.all (fun p => ks.contains p.1) = true → CB l s → CB l { s with env := s.env.keep ks }
 | [], _, _ => trivial
 | (t, x) :: l, h, hr => by
  simp only [List.all_cons, Bool.and_eq_true] at h
  exact ⟨by rw [kR, h.1]; exact hr.1, CB.keep h.2 hr.2⟩
theorem NoB.keep {B : List Nat} {s : St} (ks : List Nat) (h : NoB B s) : NoB B { s with env := s.env.keep ks } := by
 intro u hu
 have := h u hu
 simp only [St.free] at this ⊢
 rw [kR]
 by_cases hk : ks.contains u = true
 ·rw [if_pos hk]; exact this
 ·rw [if_neg hk]
theorem Ud {B : List Nat} {s : St} (t : Nat) (x : LV) (h : NoB B s) : NoB B (s.upd t (.v x)) := by
 intro u hu
 rw [JE]
 split
 ·rfl
 ·exact h u hu
theorem MW {B : List Nat} {s : St} (t : Nat) (x : A6) (ht : B.contains t = true) (h : NoB B s) : NoB B (s.upd t x) := by
 intro u hu
 rw [JE]
 split
 ·rename_i e; subst e; rw [ht] at hu; cases hu
 ·exact h u hu
theorem NoB.put {B : List Nat} {s s' : St} {t : Option Nat} {v : LV} (h : NoB B s) (hp : s.put t v = some s') : NoB B s' := by
 cases t with
 | none => simp only [St.put, Option.some.injEq] at hp; subst hp; exact h
 | some t =>
  simp only [St.put] at hp
  split at hp
  ·cases hp
  ·cases hp
  ·simp only [Option.some.injEq] at hp; subst hp; exact Ud t v h
theorem NoB.take {B : List Nat} {s : St} {LP : Aw} (x : Opd) (h : NoB B s) : NoB B (s.take LP x).2 := by
 cases x with
 | tmp t =>
  simp only [St.take]
  split
  ·exact Ud t _ h
  ·exact h
 | con v => exact h
 | glob v => exact h
theorem NoB.setAt {B : List Nat} {s : St} {j t : Nat} {x : A6} (h : NoB B s) (hb : j = s.low.length → s.free t = false) : NoB B (s.setAt j t x) := by
 simp only [St.setAt]
 split
 ·rename_i hj
  refine MW t x ?_ h
  cases hc : B.contains t with
  | true => rfl
  | false => have := h t hc; rw [hb hj] at this; cases this
 ·exact h
theorem Y8 {s : St} {j t g : Nat} {cs : List LV} (h : s.cells j t g = some cs) : j = s.low.length → s.free t = false := by
 rintro rfl
 rw [IR] at h
 simp only [St.free]
 cases hr : s.raw t with
 | none => rw [hr] at h; cases h
 | some x => rw [hr] at h; cases x with
  | box g' cs => rfl
  | _ => cases h
theorem Hr {s : St} {j t g n : Nat} {es : List (List Int × LV)} (h : s.entries j t g n = some es) : j = s.low.length → s.free t = false := by
 rintro rfl
 simp only [St.entries, St.at, if_true] at h
 simp only [St.free, St.raw]
 cases hr : s.env.get t with
 | none => rw [hr] at h; cases h
 | some x => rw [hr] at h; cases x with
  | mapo g' n es => rfl
  | _ => cases h
def opB (B : List Nat) (o : AD) : Bool := match o.op with
 | .alloc _ | .box _ _ | .mkmap _ => match o.dst with
  | some t => B.contains t
  | none => true
 | .call _ _ (some vis) => vis.all B.contains
 | _ => true
theorem NoB.merge {B vis : List Nat} {e e' : Env} {low low' : List Fr} {c c' : Nat} (hv : vis.all B.contains = true) (h : NoB B ⟨e, low, c⟩) : NoB B ⟨Env.merge vis e e', low', c'⟩ := by
 intro u hu
 have hvu : vis.contains u = false := by
  cases hc : vis.contains u with
  | false => rfl
  | true =>
   have := List.all_eq_true.mp hv u (by simpa using hc)
   rw [hu] at this; cases this
 have hg : (Env.merge vis e e').get u = e.get u := by
  clear h
  induction e with
  | nil => rfl
  | cons p e ih =>
   obtain ⟨t, x⟩ := p
   simp only [Env.merge, List.filterMap_cons] at ih ⊢
   by_cases ht : t = u
   ·subst ht
    simp only [hvu, Bool.false_eq_true, if_false, Env.get, if_true]
   ·cases hc : vis.contains t with
    | false => simp only [Bool.false_eq_true, if_false, Env.get, if_neg ht]; exact ih
    | true =>
     simp only [if_true]
     cases e'.get t with
     | none => simp only [Option.map_none, Env.get, if_neg ht]; exact ih
     | some y => simp only [Option.map_some, Env.get, if_neg ht]; exact ih
 have := h u hu
 simp only [St.free, St.raw] at this ⊢
 rw [hg]; exact this
theorem NoB.evalOp {LP : Aw} {C : AM} {B : List Nat} {g : Nat} {o : AD} {s s' : St} (ho : opB B o = true) (h : NoB B s) (he : evalOp LP C g o.dst o.op s = some s') : NoB B s' := by
 obtain ⟨dst, op, guard, root⟩ := o
 simp only at he
 cases op with
 | move x t => cases t with
  | false => exact h.put he
  | true => exact (NoB.take x h).put he
 | alloc zs => cases dst with
  | none => cases he
  | some t => simp only [Lf.evalOp, Option.some.injEq] at he; subst he; exact MW t _ ho h
 | box n x => cases dst with
  | none => cases he
  | some t =>
   simp only [Lf.evalOp] at he
   split at he
   ·split at he
    ·simp only [Option.some.injEq] at he; subst he; exact MW t _ ho h
    ·cases he
   ·cases he
 | mkmap n => cases dst with
  | none => cases he
  | some t => simp only [Lf.evalOp, Option.some.injEq] at he; subst he; exact MW t _ ho h
 | mapset n m k v =>
  simp only [Lf.evalOp] at he
  split at he
  ·split at he
   ·rename_i es hes
    split at he
    ·simp only [Option.some.injEq] at he; subst he; exact (NoB.take v h).setAt (Hr hes)
    ·simp only [Option.some.injEq] at he; subst he; exact (NoB.take v h).setAt (Hr hes)
   ·cases he
  ·cases he
 | load k p take =>
  simp only [Lf.evalOp] at he
  split at he
  ·split at he
   ·exact h.put he
   ·cases he
  ·split at he
   ·exact h.put he
   ·cases he
  ·split at he
   ·rename_i cs hcs
    split at he
    ·exact (h.setAt (Y8 hcs)).put he
    ·split at he
     ·exact h.put he
     ·cases he
   ·cases he
  ·cases he
 | store n p x =>
  simp only [Lf.evalOp] at he
  split at he
  ·split at he
   ·rename_i cs xs hcs _
    split at he
    ·simp only [Option.some.injEq] at he; subst he; exact (NoB.take x h).setAt (Y8 hcs)
    ·cases he
   ·cases he
  ·cases he
 | call f args vis => cases vis with
  | some vis =>
   simp only [opB] at ho
   simp only [Lf.evalOp] at he
   repeat' split at he
   all_goals first | exact NoB.put (NoB.merge (e := s.env) (low := s.low) (c := s.ctr) ho h) he | cases he
  | none =>
   simp only [Lf.evalOp] at he
   repeat' split at he
   all_goals first | exact h.put he | cases he
 | append sz q x y =>
  simp only [Lf.evalOp] at he
  split at he
  ·exact (NoB.take x h).put he
  ·cases he
 | extract i x t =>
  simp only [Lf.evalOp] at he
  repeat' split at he
  all_goals first | exact h.put he | exact NoB.put (Ud _ _ h) he | cases he
 | lookup n m k ok z =>
  simp only [Lf.evalOp] at he
  repeat' split at he
  all_goals first | exact h.put he | cases he
 | mentry n m k z =>
  simp only [Lf.evalOp] at he
  split at he
  ·split at he
   ·rename_i es hes
    split at he
    ·exact (h.setAt (Hr hes)).put he
    ·exact (h.setAt (Hr hes)).put he
   ·cases he
  ·cases he
 | mstore n m i x =>
  simp only [Lf.evalOp] at he
  split at he
  ·split at he
   ·rename_i es hes
    split at he
    ·simp only [Option.some.injEq] at he; subst he; exact (NoB.take x h).setAt (Hr hes)
    ·cases he
   ·cases he
  ·cases he
 | bad => cases he
 | mkfn f a b => exact h.put he
 | _ =>
  simp only [Lf.evalOp] at he
  repeat' split at he
  all_goals first | exact h.put he | cases he
theorem NoB.evalOps {LP : Aw} {C : AM} {B : List Nat} : ∀ {ops : List AD} {g : Nat} {s s' : St}, ops.all (opB B) = true → NoB B s → evalOps LP C g ops s = some s' → NoB B s'
 | [], _, s, s', _, h, he => by simp only [Lf.evalOps, Option.some.injEq] at he; subst he; exact h
 | o :: r, g, s, s', ho, h, he => by
  simp only [List.all_cons, Bool.and_eq_true] at ho
  simp only [Lf.evalOps] at he
  split at he
  ·rename_i s1 h1
   refine NoB.evalOps ho.2 ?_ he
   simp only [Ag] at h1
   split at h1
   ·split at h1
    ·exact NoB.evalOp ho.1 h h1
    ·cases h1
   ·split at h1
    ·split at h1
     ·split at h1
      ·exact NoB.evalOp ho.1 h h1
      ·cases h1
     ·exact h.put h1
    ·exact h.put h1
    ·cases h1
  ·cases he
section
variable {LP : Aw} {ks : List gG} {J : zk → St → Prop} {a b : B6} {s : St}
theorem iQ {B : List Nat} {ops : List AD} {keep : List Nat} {low : List Fr} (l : List (Nat × A6)) (hl : s.low = low) (hf : NoB B s) (hB : ops.all (opB B) = true) (hk : l.all (fun p => keep.contains p.1) = true)
  (h : ∃ s1, Lf.evalOps LP (om LP) s.ctr ops (s.tick ops.length) = some s1 ∧ CB l s1 ∧ s1.low = low)
  (h' : ∀ s', Em l s' → s'.low = low → NoB B s' → ET LP ks .normal s' J) : Run LP ks (.ops ops keep) s J := by
 obtain ⟨s1, he, hr, hl1⟩ := h
 have hf1 : NoB B s1 := NoB.evalOps hB (show NoB B (s.tick ops.length) from hf) he
 obtain ⟨e, lw, c⟩ := s
 exact ⟨.normal, { s1 with env := s1.env.keep keep }, .ops (NK he), h' _ (CB.keep hk hr).r hl1 (NoB.keep keep hf1)⟩
theorem iH {t : Nat} {c : Bool} (hr : s.raw t = some (.v (.d (.bool c)))) (hc : c = true) (h : Run LP ks a s J) : Run LP ks (.cond (.tmp t) a b) s J := by
 subst hc
 refine Run.condT ?_ h
 rw [V5, Lc, hr]; rfl
theorem hG {t : Nat} {c : Bool} (hr : s.raw t = some (.v (.d (.bool c)))) (hc : c = false) (h : Run LP ks b s J) : Run LP ks (.cond (.tmp t) a b) s J := by
 subst hc
 refine Run.condF ?_ h
 rw [V5, Lc, hr]; rfl
end
theorem Run.sub {LP : Aw} {ks : List gG} {J : zk → St → Prop} {c : B6} {s : St} {Q : zk → St → Prop} (h : Run LP [] c s Q) (h' : ∀ j s', Q j s' → ET LP ks j s' J) : Run LP ks c s J := by
 obtain ⟨j, s', h1, h2⟩ := h
 exact ⟨j, s', h1, h' j s' h2⟩
def wL {σ ρ : Type} (E : σ → St → Prop) (Q : ρ → zk → St → Prop) (out : σ ⊕ ρ) (j : zk) (s : St) : Prop := match out with
 | .inl x => j = .normal ∧ E x s
 | .inr r => j ≠ .normal ∧ Q r j s
theorem lW {LP : Aw} {ks : List gG} {c : B6} {σ ρ : Type} {f : σ → Option (σ ⊕ ρ)} {E : σ → St → Prop} {Q : ρ → zk → St → Prop} {J : zk → St → Prop} {r : ρ} {x : σ} {s : St}
  (hs : ∀ x s out, E x s → f x = some out → Run LP [] c s (wL E Q out)) (he : E x s) (hl : Loop f x = some r) (h' : ∀ j s', Q r j s' → ET LP ks j s' J) : Run LP ks (.loop c) s J := by
 obtain ⟨n, hn⟩ := ND.mp hl
 clear hl
 induction n generalizing x s with
 | zero => simp [turns] at hn
 | succ n ih =>
  simp only [turns] at hn
  cases ho : f x with
  | none => rw [ho] at hn; simp at hn
  | some out =>
   rw [ho] at hn
   obtain ⟨j, s', h1, h2⟩ := hs x s out he ho
   cases out with
   | inl x' =>
    obtain ⟨rfl, hx⟩ := h2
    obtain ⟨j', s'', h3, h4⟩ := ih hx hn
    exact ⟨j', s'', .loop h1 h3, h4⟩
   | inr r' =>
    obtain ⟨hj, hq⟩ := h2
    obtain rfl := Option.some.inj hn
    exact ⟨j, s', .loop_jump h1 hj, h' j s' hq⟩
theorem zB {α : Type} [Enc α] {s : St} {t : Nat} {x : Sl α} (h : s.raw t = some (.v (.d (Enc.enc x)))) : s.raw t = some (.v x.cool.lv) := by rw [h, NN]
def St.merged (s : St) (vis : List Nat) (c : Nat) : St := ⟨Env.merge vis s.env (s.env.keep vis), s.low, c⟩
theorem dr (vis : List Nat) (E : Env) (t : Nat) : ∀ e : Env, (∀ u x, e.get u = some x → E.get u = some x ∨ (∃ y, E.get u = some y)) → (Env.merge vis e (E.keep vis)).get t = if vis.contains t then (match e.get t with | some _ => E.get t | none => none) else e.get t
 | [], _ => by simp [Env.merge, Env.get]
 | (u, x) :: e, h => by
  have hu : ∃ y, Env.get u E = some y := by
   rcases h u x (by simp [Env.get]) with h1 | h1
   ·exact ⟨x, h1⟩
   ·exact h1
  obtain ⟨y, hy⟩ := hu
  have ih := dr vis E t e
  by_cases hut : u = t
  ·subst hut
   cases hc : vis.contains u with
   | false => simp only [Env.merge, List.filterMap_cons, hc, Bool.false_eq_true, if_false, Env.get, if_true]
   | true => simp only [Env.merge, List.filterMap_cons, hc, if_true, JL, hy, Option.map_some, Env.get]
  ·have ih' : (Env.merge vis e (E.keep vis)).get t = if vis.contains t then (match Env.get t e with | some _ => Env.get t E | none => none) else Env.get t e := by
    apply ih
    intro u' x' hx'
    by_cases hu2 : u = u'
    ·subst hu2; exact .inr ⟨y, hy⟩
    ·exact h u' x' (by simp only [Env.get, if_neg hu2]; exact hx')
   simp only [Env.get, if_neg hut]
   rw [← ih']
   cases hc : vis.contains u with
   | false => simp only [Env.merge, List.filterMap_cons, hc, Bool.false_eq_true, if_false, Env.get, if_neg hut]
   | true => simp only [Env.merge, List.filterMap_cons, hc, if_true, JL, hy, Option.map_some, Env.get, if_neg hut]
theorem NI (s : St) (vis : List Nat) (c t : Nat) : (s.merged vis c).raw t = s.raw t := by
 simp only [St.raw, St.merged]
 rw [dr vis s.env t s.env (fun u x h => .inl h)]
 split
 ·cases s.env.get t <;> rfl
 ·rfl
theorem ON (s : St) (vis : List Nat) (c t : Nat) : (s.merged vis c).free t = s.free t := by
 simp only [St.free, NI]
theorem Y4 (s : St) (vis : List Nat) (c : Nat) : (s.merged vis c).low = s.low := rfl
section
variable (LP : Aw) (C : AM)
def Ll (g : Nat) (r : List AD) (s : St) (t : Option Nat) (vis : List Nat) : Option (LV × List Fr × Nat) → Option St
 | some (v, low', c') => match low'.getLast? with
  | some fr => if low'.length = s.low.length + 1 then Hj LP C g r { env := Env.merge vis s.env fr.env, low := low'.dropLast, ctr := c' } t (some v) else none
  | none => none
 | none => none
variable {LP C} (g : Nat) (r : List AD) (s : St) (t : Option Nat) (ro : Option (Option Nat))
theorem Yp (vis : List Nat) (v : LV) (c : Nat) (low2 : List Fr) (h : low2 = s.low) : Ll LP C g r s t vis (some (v, low2 ++ [⟨s.env.keep vis, none⟩], c)) = Hj LP C g r (s.merged vis c) t (some v) := by
 subst h
 simp [Ll, St.merged]
theorem qo (fv : DV) (f : Nat) (a b : List DV) (fo : Opd) (args : List Opd) (vis : List Nat) (h : s.val LP fo = .d fv) (hf : fv = .fn f a b) :
  evalOps LP C g (⟨t, .call fo args (some vis), none, ro⟩ :: r) s = Ll LP C (g + 1) r s t vis (C.call f (a.map .d ++ args.map (s.val LP) ++ b.map .d) (s.low ++ [⟨s.env.keep vis, none⟩]) s.ctr) := by
 subst hf
 have hr : An s.low.length ro none = true := by cases ro <;> rfl
 simp only [evalOps, Ag, zn.addr, Option.map_none, hr, if_true, evalOp, h, target]
 cases C.call f (List.map LV.d a ++ List.map (St.val LP s) args ++ List.map LV.d b) (s.low ++ [⟨s.env.keep vis, none⟩]) s.ctr with
 | none => rfl
 | some p =>
  obtain ⟨v, low', c'⟩ := p
  simp only [Ll]
  cases low'.getLast? with
  | none => rfl
  | some fr =>
   simp only
   by_cases hl : low'.length = s.low.length + 1
   ·simp only [if_pos hl]; rfl
   ·simp only [if_neg hl]
theorem iz (f : Nat) (a b : List DV) (args : List Opd) (vis : List Nat) :
  evalOps LP C g (⟨t, .call (.con (.fn f a b)) args (some vis), none, ro⟩ :: r) s = Ll LP C (g + 1) r s t vis (C.call f (a.map .d ++ args.map (s.val LP) ++ b.map .d) (s.low ++ [⟨s.env.keep vis, none⟩]) s.ctr) :=
 qo g r s t ro _ f a b _ args vis rfl rfl
end
theorem kV (LP : Aw) (s : St) (n : Nat) : s.val LP (.glob n) = .d (.fptr (LP.globs n) 0) := rfl
def Rm (s : St) (r : Nat × Option (Option Nat)) : Option LV := (CC s r).bind (freeze s.low.length s.env 9)
def fin (rs : List (Nat × Option (Option Nat))) (s : St) : Option LV := match rs.mapM (Rm s) with
 | some [x] => some x
 | some xs => some (LV.norm (.tup xs))
 | none => none
theorem AS {s : St} {r : Nat × Option (Option Nat)} {v : DV} (h : Rm s r = some (.d v)) : fin [r] s = some (.d v) := by
 simp [fin, h]
theorem CV {s : St} {r1 r2 : Nat × Option (Option Nat)} {v1 v2 : DV} (h1 : Rm s r1 = some (.d v1)) (h2 : Rm s r2 = some (.d v2)) : fin [r1, r2] s = some (.d (.tup [v1, v2])) := by
 simp [fin, h1, h2, LV.norm, LV.toD, AW]
theorem vX {s : St} {r1 r2 r3 : Nat × Option (Option Nat)} {v1 v2 v3 : DV} (h1 : Rm s r1 = some (.d v1)) (h2 : Rm s r2 = some (.d v2)) (h3 : Rm s r3 = some (.d v3)) : fin [r1, r2, r3] s = some (.d (.tup [v1, v2, v3])) := by
 simp [fin, h1, h2, h3, LV.norm, LV.toD, AW]
theorem AZ {s : St} {t : Nat} {v : DV} (h : s.raw t = some (.v (.d v))) : Rm s (t, none) = some (.d v) := by
 simp only [Rm, CC, Lc, h]; rfl
theorem ut {α : Type} [Enc α] {s : St} {t : Nat} {x : Sl α} (h : s.raw t = some (.v x.lv)) : Rm s (t, none) = some (.d (Enc.enc x)) := by
 simp only [Rm, CC, Lc, h, J0, Jp]; cases x <;> rfl
theorem Be {α : Type} [LX α] {s : St} {t g n : Nat} {x : α} (h : s.raw t = some (.box g ((Enc.cells x).map .d))) (hn : Enc.n α = n) : Rm s (t, some (some n)) = some (.d (Enc.enc x)) := by
 have hl : ((Enc.cells x).map LV.d).length = n := by rw [List.length_map, E6.len, hn]
 have hc : ((Enc.cells x).map LV.d).map LV.copy = (Enc.cells x).map LV.d := by rw [List.map_map]; rfl
 simp only [St.raw] at h
 simp only [Rm, CC, h, hl, if_true, hc, LV.norm, LV.toD, O7, Option.map_some, Option.bind_some, LX.agg]
 rfl
theorem wP {s : St} {t g : Nat} {v : DV} (h : s.raw t = some (.box g [.d v])) : Rm s (t, some none) = some (.d v) := by
 simp only [St.raw] at h
 simp [Rm, CC, h, LV.copy, freeze]
theorem gy {α : Type} [Enc α] {s : St} {t g : Nat} {x : Sl α} (h : s.raw t = some (.box g [x.lv])) : Rm s (t, some none) = some (.d (Enc.enc x)) := by
 simp only [St.raw] at h
 cases x <;> simp [Rm, CC, h, LV.copy, freeze, Sl.lv, Enc.enc, Sl.dv]
def FnJ (lf : EQ) (low : List Fr) (v : LV) (j : zk) (s : St) : Prop := (j = .normal ∨ j = .ret) ∧ s.low = low ∧ fin lf.results s = some v
theorem sq {LP : Aw} {n : Nat} {lf : EQ} {args : List LV} {low : List Fr} {ctr : Nat} {v : LV} {B : List Nat} (hf : LP.funcs n = some lf) (hl : args.length = lf.nparams)
  (hB : NoB B { env := Cm 0 args, low, ctr }) (h : ∀ s, (∀ t, s.raw t = (Cm 0 args).get t) → s.low = low → NoB B s → Run LP [] lf.body s (FnJ lf low v)) : ∃ ctr', rB LP n args low ctr v low ctr' := by
 obtain ⟨j, s', hc, hj, hl', hr⟩ := h { env := Cm 0 args, low, ctr } (fun _ => rfl) rfl hB
 refine ⟨s'.ctr, ?_⟩
 have := rB.func (jmp := j) hf hl hc hj (v := v) hr
 rwa [hl'] at this
theorem VR (args : List LV) (low : List Fr) (ctr : Nat) (B : List Nat) : NoB B { env := Cm 0 args, low, ctr } := by
 intro u _
 have main : ∀ (args : List LV) (k : Nat), St.free { env := Cm k args, low, ctr } u = true := by
  intro args
  induction args with
  | nil => intro k; rfl
  | cons a args ih =>
   intro k
   simp only [Cm]
   rw [pB]
   split
   ·rfl
   ·exact ih (k + 1)
 exact main args 0
def zj (LP : Aw) (n : Nat) (ds : List DV) (v : DV) : Prop := ∀ low ctr, ∃ ctr', rB LP n (ds.map .d) low ctr (.d v) low ctr'
theorem zj.call {LP : Aw} {n : Nat} {ds : List DV} {v : DV} (h : zj LP n ds v) : A5 (om LP) n ds = some (.d v) := by
 obtain ⟨c, he⟩ := h [] 0
 simp only [A5, JS.mpr he]
 rfl
theorem Gt {LP : Aw} {n : Nat} {ds : List DV} {v : DV} (h : zj LP n ds v) : ∃ c : List Fr → Nat → Nat, ∀ low ctr, (om LP).call n (ds.map LV.d) low ctr = some (.d v, low, c low ctr) := by
 have h' : ∀ (p : List Fr × Nat), ∃ c, (om LP).call n (ds.map LV.d) p.1 p.2 = some (.d v, p.1, c) := fun p => by
  obtain ⟨c, hc⟩ := h p.1 p.2
  exact ⟨c, JS.mpr hc⟩
 exact ⟨fun l c => (h' (l, c)).choose, fun l c => (h' (l, c)).choose_spec⟩
theorem xz {LP : Aw} {n : Nat} {lf : EQ} {ds : List DV} {v : DV} (B : List Nat) (hf : LP.funcs n = some lf) (hl : ds.length = lf.nparams)
  (h : ∀ low s, (∀ t, s.raw t = (Cm 0 (ds.map LV.d)).get t) → s.low = low → NoB B s → Run LP [] lf.body s (FnJ lf low (.d v))) : zj LP n ds v := by
 intro low ctr
 exact sq (B := B) hf (by simpa using hl) (VR _ _ _ _) (h low)
def JH (low : List Fr) (j t : Nat) : Option A6 := match low[j]? with
 | some fr => fr.env.get t
 | none => none
theorem ic {low : List Fr} {j t : Nat} {x : A6} (h : JH low j t = some x) : j < low.length := by
 simp only [JH] at h
 by_cases hj : j < low.length
 ·exact hj
 ·rw [List.getElem?_eq_none (by omega)] at h; cases h
theorem Ve {low : List Fr} {fr : Fr} {j t : Nat} {x : A6} (h : JH low j t = some x) : JH (low ++ [fr]) j t = some x := by
 have := ic h
 simp only [JH] at h ⊢
 rw [List.getElem?_append_left this]; exact h
theorem Z2 {low : List Fr} {e : Env} {l : Option KV} {t : Nat} {x : A6} (h : Env.get t e = some x) : JH (low ++ [⟨e, l⟩]) low.length t = some x := by
 simp only [JH]
 rw [List.getElem?_append_right (Nat.le_refl _), Nat.sub_self]; exact h
theorem PO {low : List Fr} {j t g : Nat} {cs : List LV} (h : JH low j t = some (.box g cs)) (s : St) (k : Option Nat) (off : Nat) (hl : s.low = low) : Qb s k none (.ptr j t g off) = part k off cs := by
 subst hl
 have hj := ic h
 have hc : s.cells j t g = some cs := by
  simp only [St.cells, St.at, if_neg (show ¬ j = s.low.length by omega)]
  simp only [JH] at h
  cases hx : s.low[j]? with
  | none => rw [hx] at h; cases h
  | some fr => rw [hx] at h; simp only at h ⊢; rw [h]; simp
 simp only [Qb, An, if_true, hc]
theorem Vg (s : St) (k : Option Nat) (ro : Option (Option Nat)) (cs : List LV) (off : Nat) : Qb s k ro (.fptr cs off) = part k off cs := by
 have h : An s.low.length ro (some (.fptr cs off)) = true := by cases ro <;> rfl
 simp only [Qb, h, if_true]
theorem CL (k : Option Nat) (off g : Nat) (cs : List LV) : GX k off g (some (.box g cs)) = part k off cs := by simp only [GX, if_true]
theorem FH (x : LV) : part none 0 [x] = some x.copy := rfl
theorem RP (f : Nat) (a b : List LV) : part none 0 [LV.fn f a b] = some (.fn f a b) := rfl
theorem mt (s : St) (t : Nat) : Env.get t s.env = s.raw t := rfl
theorem get_keep (ks : List Nat) (e : Env) (t : Nat) : Env.get t (Env.keep ks e) = if ks.contains t then Env.get t e else none := JL ..
def Ou (LP : Aw) (n : Nat) (args : List LV) (low : List Fr) (v : LV) : Prop := ∀ ctr, ∃ ctr', rB LP n args low ctr v low ctr'
noncomputable def f8 (LP : Aw) (n : Nat) (args : List LV) (low : List Fr) (ctr : Nat) : Nat := match (om LP).call n args low ctr with
 | some (_, _, c) => c
 | none => 0
theorem Ou.om {LP : Aw} {n : Nat} {args : List LV} {low : List Fr} {v : LV} (h : Ou LP n args low v) (ctr : Nat) : (om LP).call n args low ctr = some (v, low, f8 LP n args low ctr) := by
 obtain ⟨c, hc⟩ := h ctr
 have := JS.mpr hc
 simp only [f8, this]
theorem zj.low {LP : Aw} {n : Nat} {ds : List DV} {v : DV} (h : zj LP n ds v) (low : List Fr) : Ou LP n (ds.map .d) low (.d v) := h low
theorem Ou.call {LP : Aw} {n : Nat} {ds : List DV} {v : DV} (h : Ou LP n (ds.map .d) [] (.d v)) : A5 (Lf.om LP) n ds = some (.d v) := by
 obtain ⟨c, he⟩ := h 0
 simp only [A5, JS.mpr he]
 rfl
theorem wB {LP : Aw} {n : Nat} {lf : EQ} {args : List LV} {low : List Fr} {v : LV} (B : List Nat) (hf : LP.funcs n = some lf) (hl : args.length = lf.nparams)
  (h : ∀ s, (∀ t, s.raw t = (Cm 0 args).get t) → s.low = low → NoB B s → Run LP [] lf.body s (FnJ lf low v)) : Ou LP n args low v := by
 intro ctr
 exact sq (B := B) hf hl (VR _ _ _ _) h
def uR (LP : Aw) (C : AM) (g : Nat) (r : List AD) (s : St) (t : Option Nat) (ro : Option (Option Nat)) (u : Nat) (args : List Opd) (vis : List Nat) : Option (Nat × List LV × List LV) → Option St
 | some (f, a, b) => Ll LP C (g + 1) r s t vis (C.call f (a ++ args.map (s.val LP) ++ b) (s.low ++ [⟨s.env.keep vis, none⟩]) s.ctr)
 | none => evalOps LP C g (⟨t, .call (.tmp u) args (some vis), none, ro⟩ :: r) s
theorem u4 (LP : Aw) (C : AM) (g : Nat) (r : List AD) (s : St) (t : Option Nat) (ro : Option (Option Nat)) (u : Nat) (args : List Opd) (vis : List Nat) (f : Nat) (a b : List LV) :
 uR LP C g r s t ro u args vis (some (f, a, b)) = Ll LP C (g + 1) r s t vis (C.call f (a ++ args.map (s.val LP) ++ b) (s.low ++ [⟨s.env.keep vis, none⟩]) s.ctr) := rfl
theorem qp {LP : Aw} {C : AM} (g : Nat) (r : List AD) (s : St) (t : Option Nat) (ro : Option (Option Nat)) (u : Nat) (args : List Opd) (vis : List Nat) :
  evalOps LP C g (⟨t, .call (.tmp u) args (some vis), none, ro⟩ :: r) s = uR LP C g r s t ro u args vis (target (s.slot u)) := by
 cases ht : target (s.slot u) with
 | none => rfl
 | some p =>
  obtain ⟨f, a, b⟩ := p
  have hr : An s.low.length ro none = true := by cases ro <;> rfl
  have hy : ∀ j g', s.slot u ≠ .yield j g' := by intro j g' e; rw [e] at ht; cases ht
  simp only [evalOps, Ag, zn.addr, Option.map_none, hr, if_true, evalOp, St.val, uR]
  cases hs : s.slot u with
  | yield j g' => exact absurd hs (hy j g')
  | _ =>
   rw [hs] at ht
   simp only [ht]
   cases C.call f (a ++ List.map (s.val LP) args ++ b) (s.low ++ [⟨s.env.keep vis, none⟩]) s.ctr with
   | none => rfl
   | some p =>
    obtain ⟨v, low', c'⟩ := p
    simp only [Ll]
    cases low'.getLast? with
    | none => rfl
    | some fr =>
     simp only
     by_cases hl : low'.length = s.low.length + 1
     ·simp only [if_pos hl]; rfl
     ·simp only [if_neg hl]
def oN (C : AM) (f : Nat) (a b : List DV) : Option (List DV) → Option LV
 | some ds => A5 C f (a ++ ds ++ b)
 | none => none
theorem SE (C : AM) (f : Nat) (a b ds : List DV) : oN C f a b (some ds) = A5 C f (a ++ ds ++ b) := rfl
theorem ZT (C : AM) (f : Nat) (a b : List DV) (args : List LV) : gX C (.d (.fn f a b)) args = oN C f a b (AW args) := by
 simp only [gX, target]
 cases AW args with
 | none => rfl
 | some ds => simp only [O7]; rfl
theorem rK (f : Nat) (a b : List DV) : target (.d (.fn f a b)) = some (f, a.map .d, b.map .d) := rfl
theorem mY (f : Nat) (a b : List LV) : target (.fn f a b) = some (f, a, b) := rfl
theorem dm (c : LV) (f : Nat) (x y : List LV) : Da 1 0 [.fn f x y] [c] = some [.fn f x y] := FP c rfl
theorem ZG (c : LV) (f : Nat) (x y : List DV) : Da 1 0 [.d (.fn f x y)] [c] = some [.d (.fn f x y)] := FP c rfl
theorem Wx (f : Nat) (x y : List LV) : LV.known (.fn f x y) = some [.fn f x y] := rfl
theorem ew (f : Nat) (x y : List DV) : LV.known (.d (.fn f x y)) = some [.d (.fn f x y)] := rfl
theorem Wv : LV.known (.d .nilfn) = some [.d .nilfn] := rfl
theorem Yq {LP : Aw} {C : AM} (g : Nat) (r : List AD) (s : St) (n t g' off u : Nat) (f : Nat) (a b : List LV) (h : s.raw u = some (.v (.fn f a b))) :
  RF LP C g r s n t g' off (.tmp u) (some (.v (.fn f a b))) = gJ LP C g r ((GH n off g' (some [.fn f a b]) (s.raw t)).map fun x => s.upd t x) := by
 show IK LP C g r s n (.ptr s.low.length t g' off) (.tmp u) = _
 have ht : s.take LP (.tmp u) = (.fn f a b, s) := by
  unfold St.raw at h
  simp only [St.take, h, St.slot, LV.copy]
 simp only [IK, ht, IR, Wx]
 cases hr : s.raw t with
 | none => rfl
 | some z => cases z with
  | box g2 cs =>
   simp only [GH]
   by_cases hg : g2 = g'
   ·subst hg
    simp only [if_true]
    by_cases hc : [LV.fn f a b].length = n ∧ off + n ≤ cs.length ∧ [LV.fn f a b].all LV.cellOk = true
    ·simp only [if_pos hc, Option.map_some, St.setAt, if_true, St.upd]
    ·simp only [if_neg hc, Option.map_none]
   ·simp only [if_neg hg]; rfl
  | _ => rfl
def cz (f : Nat) (a b : List LV) : Option (List DV) → Option (List DV) → LV
 | some x, some y => .d (.fn f x y)
 | _, _ => .fn f a b
theorem gP (f : Nat) (a b : List LV) : LV.norm (.fn f a b) = cz f a b (AW a) (AW b) := by
 simp only [LV.norm, LV.toD, cz]
 cases AW a <;> cases AW b <;> rfl
theorem VG (f : Nat) (a b : List LV) (x y : List DV) : cz f a b (some x) (some y) = .d (.fn f x y) := rfl
theorem WY (f : Nat) (a b : List LV) (y : Option (List DV)) : cz f a b none y = .fn f a b := by cases y <;> rfl
theorem Tq (f : Nat) (a b : List LV) (x : Option (List DV)) : cz f a b x none = .fn f a b := by cases x <;> rfl
theorem i8 (j t g o : Nat) (r : List LV) : AW (.ptr j t g o :: r) = none := rfl
theorem xb (f : Nat) (a b r : List LV) (h : LV.toD (.fn f a b) = none) : AW (.fn f a b :: r) = none := by simp only [AW, h]
theorem Pj (k t f : Nat) (a b : List LV) : KI k t (.v (.fn f a b)) = .fn f a b := rfl
theorem fY (k t : Nat) (a : List LV) : KI k t (.v (.agg a)) = .agg a := rfl
theorem ZB (k t o : Nat) (a : List LV) : KI k t (.v (.fptr a o)) = .fptr a o := rfl
theorem nF (f : Nat) (a b : List LV) : ZK 1 (.fn f a b) = some [.fn f a b] := rfl
theorem kC (f : Nat) (a b : List DV) : ZK 1 (.d (.fn f a b)) = some [.d (.fn f a b)] := rfl
theorem jb (s : St) (n : Nat) : (s.tick n).ctr = s.ctr + n := rfl
theorem nQ (a b : Bool) : vw false (.d (.bool a)) (.d (.bool b)) = some (.d (.bool (a == b))) := rfl
theorem od (a b : Bool) : vw true (.d (.bool a)) (.d (.bool b)) = some (.d (.bool (a != b))) := rfl
theorem bC (a b : Nat) (l : List Nat) : (a :: l).contains b = if b = a then true else l.contains b := by
 rw [List.contains_cons]
 by_cases h : b = a
 ·subst h; simp
 ·rw [if_neg h, show (b == a) = false from by simpa using h, Bool.false_or]
theorem bN (b : Nat) : ([] : List Nat).contains b = false := rfl
theorem mh {P : St → Prop} (s : St) : (∃ s1, some s = some s1 ∧ P s1) = P s := by simp
theorem nob {B : List Nat} {s : St} (h : NoB B s) : ∀ u, B.contains u = false → s.free u = true := h
theorem jg (s : St) (u : Nat) : lE s (.tmp u) = s.raw u := rfl
theorem i7 (s : St) (v : DV) : lE s (.con v) = some (.v (.d v)) := rfl
theorem vH (x : LV) : (A6.v x).isV = true := rfl
theorem wk (g : Nat) (cs : List LV) : (A6.box g cs).isV = false := rfl
theorem wJ (g n : Nat) (es : List (List Int × LV)) : (A6.mapo g n es).isV = false := rfl
theorem BD {α : Type} [LX α] (x : α) {n : Nat} (h : Enc.n α = n) : Ak (some n) 0 (Enc.cells x) = some (Enc.enc x) := by
 have := E6.len x
 simp only [Ak, List.drop_zero]
 rw [List.take_of_length_le (by omega), if_pos (by omega), LX.agg]
def zt (op : BinOp) (a b : Int) : Option Int := match BZ (binOp op 0 (.int .i64 a) (.int .i64 b)) with
 | some (.int n) => some n
 | _ => none
theorem bv {op : BinOp} {a b n : Int} (h : zt op a b = some n) : gQ op (.d (.int a)) (.d (.int b)) = some (.d (.int n)) := by
 unfold zt at h
 split at h
 ·rename_i m hm
  cases h
  simp only [gQ, NS, hm, Option.map_some]
 ·cases h
def Qc {α : Type} [Enc α] : Nat → List α → List (Nat × Nat × LV)
 | _, [] => []
 | i, a :: l => (i, Enc.n α, .d (Enc.enc a)) :: Qc (i + Enc.n α) l
theorem i3 {α : Type} [LX α] : ∀ (l : List α) (d r : List LV), r.length = l.length * Enc.n α → Br (Qc d.length l) (d ++ r) = some (d ++ (l.flatMap Enc.cells).map LV.d)
 | [], d, r, h => by
  simp only [List.length_nil, Nat.zero_mul, List.length_eq_zero_iff] at h
  subst h
  simp [Qc, Br]
 | a :: l, d, r, h => by
  have hl : ((Enc.cells a).map LV.d).length = Enc.n α := by rw [List.length_map, E6.len]
  have hr : Enc.n α ≤ r.length := by rw [h, List.length_cons, Nat.add_mul]; omega
  simp only [Qc, Br, Pg]
  rw [if_pos ⟨hl, by rw [List.length_append]; omega⟩]
  have hs : setCells (d ++ r) d.length ((Enc.cells a).map LV.d) = (d ++ (Enc.cells a).map LV.d) ++ r.drop (Enc.n α) := by
   rw [setCells, List.take_left' rfl, hl, ← List.drop_drop, List.drop_left' rfl]
  have hd : d.length + Enc.n α = (d ++ (Enc.cells a).map LV.d).length := by rw [List.length_append, hl]
  rw [hs, hd, i3 l (d ++ (Enc.cells a).map LV.d) (r.drop (Enc.n α)) (by rw [List.length_drop, h, List.length_cons, Nat.add_mul]; omega)]
  simp
theorem dS {α : Type} [E6 α] : ∀ (l : List α) (k : Nat) (v : α), l[k]? = some v → ((l.flatMap Enc.cells).drop (k * Enc.n α)).take (Enc.n α) = Enc.cells v
 | [], k, v, h => by simp at h
 | a :: l, 0, v, h => by
  simp only [List.getElem?_cons_zero, Option.some.injEq] at h
  subst h
  have := E6.len a
  simp only [List.flatMap_cons, Nat.zero_mul, List.drop_zero]
  rw [List.take_append_of_le_length (by omega), List.take_of_length_le (by omega)]
 | a :: l, k + 1, v, h => by
  simp only [List.getElem?_cons_succ] at h
  have := E6.len a
  rw [← dS l k v h]
  simp only [List.flatMap_cons]
  rw [List.drop_append, List.drop_of_length_le (by rw [this, Nat.add_mul]; omega), List.nil_append, this, Nat.add_mul, Nat.one_mul, Nat.add_sub_cancel]
theorem mK {α β : Type} (f : Nat → Option β) (g : α → β) (l : List α) (h : ∀ (i : Nat) (v : α), l[i]? = some v → f i = some (g v)) : (List.range l.length).mapM f = some (l.map g) := by
 have main : ∀ (k : Nat), k ≤ l.length → (List.range' (l.length - k) k).mapM f = some ((l.drop (l.length - k)).map g) := by
  intro k
  induction k with
  | zero => intro _; simp
  | succ k ih =>
   intro hk
   have hlt : l.length - (k + 1) < l.length := by omega
   rw [List.range'_succ, List.mapM_cons, h _ _ (List.getElem?_eq_getElem hlt)]
   have e : l.length - (k + 1) + 1 = l.length - k := by omega
   rw [e, ih (by omega), List.drop_eq_getElem_cons hlt, e]
   rfl
 have := main l.length (Nat.le_refl _)
 rw [Nat.sub_self] at this
 rw [List.range_eq_range']
 simpa using this
theorem JJ {α : Type} [LX α] (l : List α) {zs : List DV} {n sz : Nat} {ps : List (Nat × Nat × LV)} (hz : zs.length = Enc.n α) (hp : (n, sz, ps) = (l.length, Enc.n α, Qc 0 l)) : cZ (some sz) zs n ps = some (Sl.hot l).lv := by
 simp only [Prod.mk.injEq] at hp
 obtain ⟨rfl, rfl, rfl⟩ := hp
 have hr : (((List.replicate l.length zs).flatten).map LV.d).length = l.length * Enc.n α := by simp [hz]
 have := i3 l [] _ hr
 simp only [List.length_nil, List.nil_append] at this
 simp only [cZ, this, gV, if_true, O7, Option.getD_some]
 rw [mK (fun i => Ak (some (Enc.n α)) (i * Enc.n α) (l.flatMap Enc.cells)) Enc.enc l]
 ·rfl
 ·intro i v hv
  simp only [Ak, dS l i v hv, E6.len, if_true, LX.agg]
structure T3 (α β γ : Type) where
 a : α
 b : β
 c : γ
instance {α β γ : Type} [Enc α] [Enc β] [Enc γ] : Enc (T3 α β γ) := ⟨1, fun x => [.tup [Enc.enc x.a, Enc.enc x.b, Enc.enc x.c]], fun x => .tup [Enc.enc x.a, Enc.enc x.b, Enc.enc x.c], fun _ => rfl⟩
theorem yH {α β γ : Type} [Enc α] [Enc β] [Enc γ] (x : T3 α β γ) : qb 0 (some (.v (.d (Enc.enc x)))) = some (.d (Enc.enc x.a)) ∧ qb 1 (some (.v (.d (Enc.enc x)))) = some (.d (Enc.enc x.b)) ∧ qb 2 (some (.v (.d (Enc.enc x)))) = some (.d (Enc.enc x.c)) := ⟨rfl, rfl, rfl⟩
def Mp.get {n : Nat} {α : Type} (m : Mp n α) (k : List Int) : Option α := match m with
 | .nil => none
 | .mk es => (AN k es 0).map (·.2)
theorem MV {α β : Type} (f : α → β) (k : List Int) : ∀ (es : List (List Int × α)) (i : Nat), AN k (es.map fun p => (p.1, f p.2)) i = (AN k es i).map fun p => (p.1, f p.2)
 | [], _ => rfl
 | (k', v) :: es, i => by
  simp only [List.map_cons, AN]
  by_cases h : k' = k
  ·simp [h]
  ·simp only [if_neg h]; exact MV f k es (i + 1)
theorem af {α : Type} [Bj α] {n : Nat} (x : α) (hn : Enc.n α = n) (h1 : n ≠ 1) : LV.key n (.d (Enc.enc x)) = some (Bj.key x) := by
 have hl := E6.len x
 rw [Bj.hkey, List.length_map] at hl
 have hi : ∀ l : List Int, DV.ints (l.map .int) = some l := by
  intro l; induction l with
  | nil => rfl
  | cons a l ih => simp [DV.ints, ih]
 rw [LX.agg, Bj.hkey]
 simp only [LV.key, hi]
 rw [if_pos ⟨by omega, h1⟩]
theorem Yr {α : Type} [Bj α] (x : α) : LV.aggKey (.d (Enc.enc x)) = some (Bj.key x) := by
 have hi : ∀ l : List Int, DV.ints (l.map .int) = some l := by
  intro l; induction l with
  | nil => rfl
  | cons a l ih => simp [DV.ints, ih]
 rw [LX.agg, Bj.hkey]
 simp only [LV.aggKey, hi]
theorem MF {α : Type} [Bj α] (x y : α) (n : Nat) (hn : Enc.n α = n) : uq false n (.d (Enc.enc x)) (.d (Enc.enc y)) = some (.d (.bool (decide (Bj.key x = Bj.key y)))) := by
 have hx := E6.len x
 have hy := E6.len y
 rw [Bj.hkey, List.length_map] at hx hy
 simp [uq, Yr, hx, hy, hn]
theorem Me {α : Type} [Bj α] (x y : α) (n : Nat) (hn : Enc.n α = n) : uq true n (.d (Enc.enc x)) (.d (Enc.enc y)) = some (.d (.bool (!decide (Bj.key x = Bj.key y)))) := by
 have hx := E6.len x
 have hy := E6.len y
 rw [Bj.hkey, List.length_map] at hx hy
 simp [uq, Yr, hx, hy, hn]
theorem oR {n : Nat} {α : Type} [Enc α] (m : Mp n α) (k : LV) (key : List Int) (z : DV) (hk : k.key n = some key) : P0 n false z (.d (Enc.enc m)) k = some (.d (((m.get key).map Enc.enc).getD z)) := by
 cases m with
 | nil => simp only [P0, hk, Enc.enc, Mp.dv]; rfl
 | mk es =>
  simp only [P0, hk, Enc.enc, Mp.dv, if_true, Mp.get, MV]
  cases AN key es 0 <;> rfl
theorem j3 {n : Nat} {α κ : Type} [Enc α] [Bj κ] (s : St) (ro : Option (Option Nat)) (m : Mp n α) (k : κ) (z : α) (zd : DV) (hn : Enc.n κ = n) (h1 : n ≠ 1) (hz : Enc.enc z = zd) : qH s n false zd ro (.d (Enc.enc m)) (.d (Enc.enc k)) = some (.d (Enc.enc ((m.get (Bj.key k)).getD z))) := by
 have e := oR m (.d (Enc.enc k)) (Bj.key k) zd (af k hn h1)
 have hr : An s.low.length ro (some (.d (Enc.enc m))) = true := U4 _ _ _
 simp only [qH, hr, if_true]
 rw [e, ← hz]
 cases m.get (Bj.key k) <;> rfl
theorem hU (a b : Int) : vMm false [.d (.int a), .d (.int b)] = some (.d (.int (min a b))) := by
 simp only [vMm, minmax, N5, NS, List.foldl_cons, List.foldl_nil, Option.map_some, Bool.false_eq_true, if_false, Option.some.injEq, LV.d.injEq, DV.int.injEq]
 split <;> omega
theorem ox (a b : Int) : vMm true [.d (.int a), .d (.int b)] = some (.d (.int (max a b))) := by
 simp only [vMm, minmax, N5, NS, List.foldl_cons, List.foldl_nil, Option.map_some, if_true, Option.some.injEq, LV.d.injEq, DV.int.injEq]
 split <;> omega
theorem nE (a : Int) : vUn .neg (.d (.int a)) = some (.d (.int (W (0 - a)))) := rfl
section
variable {n : Nat} {α : Type} {x : Ar n α} {i : Int} {v : α}
theorem dl (h : x.ix i = some v) : 0 ≤ i ∧ i.toNat < n := by
 unfold Ar.ix at h
 split at h
 ·rename_i hi
  obtain ⟨hl, _⟩ := List.getElem?_eq_some_iff.mp h
  exact ⟨hi, x.h ▸ hl⟩
 ·cases h
theorem DT (h : x.ix i = some v) (sz j t g o : Nat) : Og sz n (.ptr j t g o) (.d (.int i)) = some (.ptr j t g (o + i.toNat * sz)) := by
 obtain ⟨h1, h2⟩ := dl h
 simp [Og, E1, h1, h2, Hz]
theorem ru (h : x.ix i = some v) : x.l[i.toNat]? = some v := by
 unfold Ar.ix at h
 split at h
 ·exact h
 ·cases h
variable [E6 α]
theorem jY : ∀ (l : List α) (k : Nat) (v : α), l[k]? = some v → ((l.flatMap Enc.cells).drop (k * Enc.n α)).take (Enc.n α) = Enc.cells v
 | [], k, v, h => by simp at h
 | a :: l, 0, v, h => by
  simp only [List.getElem?_cons_zero, Option.some.injEq] at h
  subst h
  have := E6.len a
  simp only [List.flatMap_cons, Nat.zero_mul, List.drop_zero]
  rw [List.take_append_of_le_length (by omega), List.take_of_length_le (by omega)]
 | a :: l, k + 1, v, h => by
  simp only [List.getElem?_cons_succ] at h
  have := E6.len a
  rw [← jY l k v h]
  simp only [List.flatMap_cons]
  rw [List.drop_append, List.drop_of_length_le (by rw [this, Nat.add_mul]; omega), List.nil_append, this, Nat.add_mul, Nat.one_mul, Nat.add_sub_cancel]
theorem aO (h : x.ix i = some v) : ((Enc.cells x).drop (i.toNat * Enc.n α)).take (Enc.n α) = Enc.cells v := jY x.l i.toNat v (ru h)
theorem Cf (h : x.ix i = some v) (h1 : Enc.n α = 1) (hc : Enc.cells v = [Enc.enc v]) : Ak none (0 + i.toNat * 1) (Enc.cells x) = some (Enc.enc v) := by
 have := aO h
 rw [h1, hc] at this
 simp only [Ak, Nat.zero_add]
 have h2 : ((Enc.cells x).drop (i.toNat * 1))[0]? = some (Enc.enc v) := by
  have h3 : (((Enc.cells x).drop (i.toNat * 1)).take 1)[0]? = some (Enc.enc v) := by rw [this]; rfl
  rwa [List.getElem?_take_of_lt (by omega)] at h3
 rw [List.getElem?_drop] at h2
 simpa using h2
theorem jK {α : Type} [LX α] {x : Ar n α} {v : α} (h : x.ix i = some v) {sz : Nat} (hz : Enc.n α = sz) : Ak (some sz) (0 + i.toNat * sz) (Enc.cells x) = some (Enc.enc v) := by
 subst hz
 have := aO h
 simp only [Ak, Nat.zero_add, this, E6.len, if_true, LX.agg]
theorem xI (h : x.ix i = some v) (h1 : Enc.n α = 1) (hc : Enc.cells v = [Enc.enc v]) : Ro none 1 n (.d (Enc.enc x)) (.d (.int i)) = some (.d (Enc.enc v)) := by
 obtain ⟨h2, h3⟩ := dl h
 have e := Cf h h1 hc
 rw [Nat.zero_add] at e
 simp only [Ro, E1, h2, if_true, h3, M7, e]
 rfl
theorem wM {α : Type} [LX α] {x : Ar n α} {v : α} (h : x.ix i = some v) {sz : Nat} (hz : Enc.n α = sz) : Ro (some sz) sz n (.d (Enc.enc x)) (.d (.int i)) = some (.d (Enc.enc v)) := by
 obtain ⟨h2, h3⟩ := dl h
 have e := jK h hz
 rw [Nat.zero_add] at e
 simp only [Ro, E1, h2, if_true, h3, M7, e]
 rfl
end
theorem wi {n : Nat} {x : Ar n Int} {i v : Int} (h : x.ix i = some v) (y : Int) : Da 1 (0 + i.toNat * 1) [.d (.int y)] ((Enc.cells x).map LV.d) = some ((Enc.cells (x.put i y)).map LV.d) := by
 obtain ⟨h1, h2⟩ := dl h
 have hl : ((Enc.cells x).map LV.d).length = n := by rw [List.length_map, E6.len]; exact Nat.mul_one n
 have hc : Enc.cells x = x.l.map DV.int := LH x.l
 have hc2 : Enc.cells (x.put i y) = (x.l.set i.toNat y).map DV.int := LH _
 simp only [Da, hl, List.length_cons, List.length_nil, Nat.zero_add, Nat.mul_one]
 rw [if_pos ⟨trivial, by omega, rfl⟩, hc, hc2, List.map_set, List.map_set]
 congr 1
 have hlt : i.toNat < (List.map LV.d (List.map DV.int x.l)).length := by simp [x.h, h2]
 rw [setCells, List.set_eq_take_append_cons_drop, if_pos hlt]
 simp
theorem Zb {LP : Aw} {C : AM} {α : Type} [Enc α] (g : Nat) (r : List AD) (s : St) (n t g' off u : Nat) (x : Sl α) (h : s.raw u = some (.v x.lv)) (hut : (s.upd u (.v x.spent.lv)).raw t = s.raw t) :
  RF LP C g r s n t g' off (.tmp u) (some (.v x.lv)) = gJ LP C g r ((GH n off g' (some [x.lv]) (s.raw t)).map fun b => (s.upd u (.v x.spent.lv)).upd t b) := by
 cases x with
 | hot xs =>
  show gJ LP C g r (Option.map _ (GH n off g' (some [(Sl.hot xs).lv]) (if u = t then _ else s.raw t))) = _
  rw [A2] at hut
  by_cases hu : u = t
  ·subst hu
   rw [if_pos rfl] at hut ⊢
   rw [← hut]; rfl
  ·rw [if_neg hu]; rfl
 | nil =>
  rw [show (Sl.nil : Sl α).spent = Sl.nil from rfl, Dz s u _ h]; rfl
 | cold xs =>
  rw [show (Sl.cold xs).spent = Sl.cold xs from rfl, Dz s u _ h]; rfl
 | full xs =>
  rw [show (Sl.full xs).spent = Sl.full xs from rfl, Dz s u _ h]
  have ht : s.take LP (.tmp u) = ((Sl.full xs).lv, s) := by
   unfold St.raw at h
   simp only [St.take, h, Sl.lv, St.slot, LV.copy]
  show IK LP C g r s n (.ptr s.low.length t g' off) (.tmp u) = _
  simp only [IK, ht, IR, Ta]
  cases hr : s.raw t with
  | none => rfl
  | some z => cases z with
   | box g2 cs =>
    simp only [GH]
    by_cases hg : g2 = g'
    ·subst hg
     simp only [if_true]
     by_cases hc : [(Sl.full xs).lv].length = n ∧ off + n ≤ cs.length ∧ [(Sl.full xs).lv].all LV.cellOk = true
     ·simp only [if_pos hc, Option.map_some, St.setAt, if_true, St.upd]
     ·simp only [if_neg hc, Option.map_none]
    ·simp only [if_neg hg]; rfl
   | _ => rfl
theorem vB {α : Type} [Enc α] (x : Sl α) (g : Nat) : GX none 0 g (some (.box g [x.lv])) = some x.spent.lv := by cases x <;> simp [GX, part, LV.copy, Sl.lv, Sl.spent]
class FX (α : Type) extends E6 α where
 elv : α → LV
 coolE : α → α
 hd : ∀ x, (elv x).toD = some (Enc.enc x)
 hc : ∀ x, (elv x).cool = elv (coolE x)
 hcp : ∀ x, (elv x).copy = elv (coolE x)
 he : ∀ x, Enc.enc (coolE x) = Enc.enc x
 hf : ∀ k env d x, freeze k env (d + 1) (elv x) = some (.d (Enc.enc x))
instance {α : Type} [Enc α] : FX (Sl α) := ⟨Sl.lv, Sl.spent, fun x => sR x, fun x => by cases x <;> rfl, fun x => by cases x <;> rfl, fun x => by cases x <;> rfl, fun _ _ _ x => by cases x <;> rfl⟩
instance : FX Int := ⟨fun x => .d (.int x), id, fun _ => rfl, fun _ => rfl, fun _ => rfl, fun _ => rfl, fun _ _ _ _ => rfl⟩
instance : FX Bool := ⟨fun x => .d (.bool x), id, fun _ => rfl, fun _ => rfl, fun _ => rfl, fun _ => rfl, fun _ _ _ _ => rfl⟩
section
variable {α : Type}
def EX (es : List (List Int × α)) (k : List Int) (v : α) : List (List Int × α) := match AN k es 0 with
 | some (i, _) => es.set i (k, v)
 | none => es ++ [(k, v)]
def NW (z : α) (es : List (List Int × α)) (k : List Int) : α := match AN k es 0 with
 | some (_, v) => v
 | none => z
def Gy (es : List (List Int × α)) (k : List Int) : Int := match AN k es 0 with
 | some (i, _) => i
 | none => es.length
def Eu (z : α) (c : α → α) (es : List (List Int × α)) (k : List Int) : List (List Int × α) := match AN k es 0 with
 | some (i, v) => es.set i (k, c v)
 | none => es ++ [(k, z)]
theorem Kt (k : List Int) : ∀ (es : List (List Int × α)) (b i : Nat) (v : α), AN k es b = some (i, v) → b ≤ i ∧ i < b + es.length ∧ es[i - b]? = some (k, v)
 | [], b, i, v, h => by simp [AN] at h
 | (k', x) :: es, b, i, v, h => by
  simp only [AN] at h
  by_cases hk : k' = k
  ·rw [if_pos hk] at h
   simp only [Option.some.injEq, Prod.mk.injEq] at h
   obtain ⟨rfl, rfl⟩ := h
   simp [hk]
  ·rw [if_neg hk] at h
   obtain ⟨h1, h2, h3⟩ := Kt k es (b + 1) i v h
   refine ⟨by omega, by simp only [List.length_cons]; omega, ?_⟩
   rw [show i - b = (i - (b + 1)) + 1 by omega, List.getElem?_cons_succ]; exact h3
variable [FX α]
def Dx (es : List (List Int × α)) : List (List Int × LV) := es.map fun p => (p.1, FX.elv p.2)
theorem cP (k : List Int) (es : List (List Int × α)) : AN k (Dx es) 0 = (AN k es 0).map fun p => (p.1, FX.elv p.2) := MV FX.elv k es 0
theorem qt (es : List (List Int × α)) (k : List Int) (v : α) : (match AN k (Dx es) 0 with
  | some (i, _) => (Dx es).set i (k, FX.elv v)
  | none => Dx es ++ [(k, FX.elv v)]) = Dx (EX es k v) := by
 rw [cP]
 simp only [EX]
 cases AN k es 0 with
 | none => simp [Dx]
 | some p => simp [Dx, List.map_set]
theorem OJ (s : St) (t g n : Nat) (es : List (List Int × LV)) (h : s.raw t = some (.mapo g n es)) : s.entries s.low.length t g n = some es := by
 simp only [St.raw] at h
 simp [St.entries, St.at, h]
theorem PT (s : St) (t : Nat) (x : A6) : s.setAt s.low.length t x = s.upd t x := by simp [St.setAt, St.upd]
variable {LP : Aw} {C : AM}
def dn (LP : Aw) (s : St) (x : Opd) (v : LV) (s' : St) : Prop := s.take LP x = (v, s')
theorem gW {s : St} {x : Opd} {v : DV} (h : lE s x = some (.v (.d v))) : dn LP s x (.d v) s := by
 cases x with
 | con w => simp only [lE, Option.some.injEq, A6.v.injEq, LV.d.injEq] at h; subst h; rfl
 | glob n => simp [lE] at h
 | tmp u => simp only [lE, St.raw] at h; simp only [dn, St.take, h, St.slot, LV.copy]
theorem TY {β : Type} [Enc β] {s : St} {u : Nat} {x : Sl β} (h : s.raw u = some (.v x.lv)) : dn LP s (.tmp u) x.lv (s.upd u (.v x.spent.lv)) := by
 have hs : s.slot u = x.spent.lv := by rw [Hh, h]; exact Jp x _ _
 simp only [dn, St.take]
 have h' := h
 simp only [St.raw] at h
 cases x with
 | hot xs => rw [h]; rfl
 | nil => rw [show (Sl.nil : Sl β).spent = Sl.nil from rfl, Dz s u _ h', h]; simp only [hs]; rfl
 | cold xs => rw [show (Sl.cold xs).spent = Sl.cold xs from rfl, Dz s u _ h', h]; simp only [hs]; rfl
 | full xs => rw [show (Sl.full xs).spent = Sl.full xs from rfl, Dz s u _ h', h]; simp only [hs]; rfl
theorem Ov (g : Nat) (r : List AD) (s s1 : St) (tt : Option Nat) (ro : Option (Option Nat)) (n t gm : Nat) (m k v : Opd) (key : List Int) (es : List (List Int × α)) (a : α)
  (hm : s.val LP m = .mref s.low.length t gm) (hr : An s.low.length ro (some (.mref s.low.length t gm)) = true) (hk : (s.val LP k).key n = some key) (hv : dn LP s v (FX.elv a) s1) (hl : s1.low = s.low) (he : s1.raw t = some (.mapo gm n (Dx es))) :
  evalOps LP C g (⟨tt, .mapset n m k v, none, ro⟩ :: r) s = evalOps LP C (g + 1) r (s1.upd t (.mapo gm n (Dx (EX es key a)))) := by
 have h1 : s1.entries s.low.length t gm n = some (Dx es) := by rw [← hl]; exact OJ s1 t gm n _ he
 have h2 : ∀ x, s1.setAt s.low.length t x = s1.upd t x := fun x => by rw [← hl]; exact PT s1 t x
 simp only [evalOps, Ag, zn.addr, Option.map_some, hm, hr, if_true, evalOp, hk]
 unfold dn at hv
 simp only [hv, h1, h2]
 rw [← qt]
 cases AN key (Dx es) 0 with
 | none => rfl
 | some p => obtain ⟨i, x⟩ := p; rfl
theorem cC (g : Nat) (r : List AD) (s : St) (u : Nat) (ro : Option (Option Nat)) (n t gm : Nat) (m k : Opd) (zd : DV) (key : List Int) (es : List (List Int × α)) (z : α)
  (hm : s.val LP m = .mref s.low.length t gm) (hr : An s.low.length ro (some (.mref s.low.length t gm)) = true) (hk : (s.val LP k).key n = some key) (he : s.raw t = some (.mapo gm n (Dx es))) (hz : FX.elv z = .d zd) (hu : s.free u = true) (hut : u ≠ t) :
  evalOps LP C g (⟨some u, .mentry n m k zd, none, ro⟩ :: r) s = evalOps LP C (g + 1) r ((s.upd t (.mapo gm n (Dx (Eu z FX.coolE es key)))).upd u (.v (.tup [FX.elv (NW z es key), .d (.int (Gy es key))]))) := by
 have h1 : s.entries s.low.length t gm n = some (Dx es) := OJ s t gm n _ he
 have h2 : ∀ x, s.setAt s.low.length t x = s.upd t x := fun x => PT s t x
 have hf : ∀ x, (s.upd t x).free u = true := fun x => by rw [JE, if_neg (Ne.symm hut)]; exact hu
 have hp : ∀ (x : A6) (y : LV), (s.upd t x).put (some u) y = some ((s.upd t x).upd u (.v y)) := by
  intro x y
  have := hf x
  simp only [St.put, St.free, St.raw] at this ⊢
  cases hx : (s.upd t x).env.get u with
  | none => rfl
  | some w => rw [hx] at this; cases w <;> simp_all [A6.isV, St.upd]
 simp only [evalOps, Ag, zn.addr, Option.map_some, hm, hr, if_true, evalOp, hk, h1, h2, cP, NW, Gy, Eu]
 cases AN key es 0 with
 | none =>
  simp only [Option.map_none, hp, ← hz]
  congr 3
  ·simp [Dx]
  ·simp [Dx]
 | some p =>
  obtain ⟨i, x⟩ := p
  simp only [Option.map_some, hp, FX.hc]
  congr 3
  simp [Dx, List.map_set]
theorem QU (g : Nat) (r : List AD) (s s1 : St) (tt : Option Nat) (ro : Option (Option Nat)) (n t gm : Nat) (m i v : Opd) (key : List Int) (es : List (List Int × α)) (z a : α)
  (hm : s.val LP m = .mref s.low.length t gm) (hr : An s.low.length ro (some (.mref s.low.length t gm)) = true) (hi : s.val LP i = .d (.int (Gy es key))) (hv : dn LP s v (FX.elv a) s1) (hl : s1.low = s.low) (he : s1.raw t = some (.mapo gm n (Dx (Eu z FX.coolE es key)))) :
  evalOps LP C g (⟨tt, .mstore n m i v, none, ro⟩ :: r) s = evalOps LP C (g + 1) r (s1.upd t (.mapo gm n (Dx (EX es key a)))) := by
 have h1 : s1.entries s.low.length t gm n = some (Dx (Eu z FX.coolE es key)) := by rw [← hl]; exact OJ s1 t gm n _ he
 have h2 : ∀ x, s1.setAt s.low.length t x = s1.upd t x := fun x => by rw [← hl]; exact PT s1 t x
 have h3 : E1 (.d (.int (Gy es key))) = some (Gy es key).toNat := by
  apply ZL
  simp only [Gy]; cases AN key es 0 with
  | none => simp
  | some p => simp
 simp only [evalOps, Ag, zn.addr, Option.map_some, hm, hr, if_true, evalOp, hi, h3]
 unfold dn at hv
 simp only [hv, h1, h2]
 cases hg : AN key es 0 with
 | none =>
  have e1 : (Gy es key).toNat = es.length := by simp [Gy, hg]
  have e2 : Eu z FX.coolE es key = es ++ [(key, z)] := by simp [Eu, hg]
  have e3 : EX es key a = es ++ [(key, a)] := by simp [EX, hg]
  rw [e1, e2, e3]
  have e4 : (Dx (es ++ [(key, z)]))[es.length]? = some (key, FX.elv z) := by simp [Dx]
  rw [e4]
  simp only
  congr 3
  simp [Dx]
 | some p =>
  obtain ⟨j, x⟩ := p
  obtain ⟨_, hj, hjx⟩ := Kt key es 0 j x hg
  have e1 : (Gy es key).toNat = j := by simp [Gy, hg]
  have e2 : Eu z FX.coolE es key = es.set j (key, FX.coolE x) := by simp [Eu, hg]
  have e3 : EX es key a = es.set j (key, a) := by simp [EX, hg]
  rw [e1, e2, e3]
  have e4 : (Dx (es.set j (key, FX.coolE x)))[j]? = some (key, FX.elv (FX.coolE x)) := by
   simp only [Dx, List.getElem?_map]
   rw [List.getElem?_set_self (by omega)]; rfl
  rw [e4]
  simp only
  congr 3
  simp [Dx, List.map_set, List.set_set]
theorem VX (g : Nat) (r : List AD) (s : St) (tt : Option Nat) (ro : Option (Option Nat)) (n t gm : Nat) (m k v : Opd) (key : List Int) (es : List (List Int × α)) (a : α) (vd : DV) (hav : FX.elv a = .d vd)
  (hm : s.val LP m = .mref s.low.length t gm) (hr : An s.low.length ro (some (.mref s.low.length t gm)) = true) (hk : (s.val LP k).key n = some key) (hv : lE s v = some (.v (.d vd))) (he : s.raw t = some (.mapo gm n (Dx es))) :
  evalOps LP C g (⟨tt, .mapset n m k v, none, ro⟩ :: r) s = evalOps LP C (g + 1) r (s.upd t (.mapo gm n (Dx (EX es key a)))) :=
 Ov g r s s tt ro n t gm m k v key es a hm hr hk (by rw [hav]; exact gW hv) rfl he
theorem uK (g : Nat) (r : List AD) (s : St) (tt : Option Nat) (ro : Option (Option Nat)) (n t gm : Nat) (m i v : Opd) (key : List Int) (es : List (List Int × α)) (z a : α) (vd : DV) (hav : FX.elv a = .d vd)
  (hm : s.val LP m = .mref s.low.length t gm) (hr : An s.low.length ro (some (.mref s.low.length t gm)) = true) (hi : s.val LP i = .d (.int (Gy es key))) (hv : lE s v = some (.v (.d vd))) (he : s.raw t = some (.mapo gm n (Dx (Eu z FX.coolE es key)))) :
  evalOps LP C g (⟨tt, .mstore n m i v, none, ro⟩ :: r) s = evalOps LP C (g + 1) r (s.upd t (.mapo gm n (Dx (EX es key a)))) :=
 QU g r s s tt ro n t gm m i v key es z a hm hr hi (by rw [hav]; exact gW hv) rfl he
theorem jD (g : Nat) (r : List AD) (s : St) (d u : Nat) (ro : Option (Option Nat)) (a : α) (y : LV) (hu : s.raw u = some (.v (.tup [FX.elv a, y]))) (hd : s.free d = true) (hdu : d ≠ u) :
  evalOps LP C g (⟨some d, .extract 0 (.tmp u) true, none, ro⟩ :: r) s = evalOps LP C (g + 1) r ((s.upd u (.v (.tup [FX.elv (FX.coolE a), y]))).upd d (.v (FX.elv a))) := by
 have hr : An s.low.length ro none = true := by cases ro <;> rfl
 have hput : ∀ (s2 : St) (v : LV), s2.free d = true → s2.put (some d) v = some (s2.upd d (.v v)) := by
  intro s2 v h
  simp only [St.put, St.free, St.raw] at h ⊢
  cases hx : s2.env.get d with
  | none => rfl
  | some w => rw [hx] at h; cases w <;> simp_all [A6.isV, St.upd]
 by_cases hh : ∃ z xs, FX.elv a = .hot z xs
 ·obtain ⟨z, xs, hx⟩ := hh
  have hc := FX.hc a
  rw [hx] at hc hu
  have hf : (s.upd u (.v (.tup [FX.elv (FX.coolE a), y]))).free d = true := by rw [JE, if_neg (Ne.symm hdu)]; exact hd
  have hp := hput _ (.hot z xs) hf
  have hu' := hu
  simp only [St.raw] at hu
  simp only [evalOps, Ag, zn.addr, Option.map_none, hr, if_true, evalOp, hu, List.getElem?_cons_zero, List.set_cons_zero]
  rw [← hc] at hp ⊢
  rw [hx]
  have hp' : ({ s with env := s.env.set u (.v (.tup [.d (.slice z xs), y])) } : St).put (some d) (.hot z xs) = some ((s.upd u (.v (.tup [LV.cool (.hot z xs), y]))).upd d (.v (.hot z xs))) := hp
  rw [hp']
 ·have hcp : (FX.elv a).copy = FX.elv a := by
   cases ha : FX.elv a with
   | hot z xs => exact absurd ⟨z, xs, ha⟩ hh
   | tup cs => have h2 := FX.hcp a; rw [ha] at h2; have h3 := FX.hc a; rw [ha] at h3; rw [← h3] at h2; exact h2
   | _ => rfl
  have he : FX.elv (FX.coolE a) = FX.elv a := by rw [← FX.hcp]; exact hcp
  have hp := hput s (FX.elv a) hd
  rw [he, Dz s u _ hu]
  simp only [St.raw] at hu
  simp only [evalOps, Ag, zn.addr, Option.map_none, hr, if_true, evalOp, hu]
  simp only [List.getElem?_cons_zero]
  cases ha : FX.elv a with
  | hot z xs => exact absurd ⟨z, xs, ha⟩ hh
  | _ => rw [ha] at hcp hp; simp only [hcp, hp]
theorem Tf (g : Nat) (r : List AD) (s : St) (d : Option Nat) (u : Nat) (ro : Option (Option Nat)) (x : LV) (y : DV) (hu : s.raw u = some (.v (.tup [x, .d y]))) :
  evalOps LP C g (⟨d, .extract 1 (.tmp u) true, none, ro⟩ :: r) s = Hj LP C (g + 1) r s d (some (.d y)) := by
 have hr : An s.low.length ro none = true := by cases ro <;> rfl
 simp only [St.raw] at hu
 simp only [evalOps, Ag, zn.addr, Option.map_none, hr, if_true, evalOp, hu, List.getElem?_cons_succ, List.getElem?_cons_zero, LV.copy, Hj]
 cases s.put d (.d y) <;> rfl
theorem js {β : Type} [Enc β] (x : Sl β) : FX.elv x = x.lv := rfl
theorem kK {β : Type} [Enc β] (x : Sl β) : FX.coolE x = x.spent := rfl
theorem oo (x : Int) : FX.elv x = .d (.int x) := rfl
theorem dN (x : Int) : FX.coolE x = x := rfl
theorem jM (x : Bool) : FX.elv x = .d (.bool x) := rfl
theorem Ym (x : Bool) : FX.coolE x = x := rfl
theorem TV : Dx ([] : List (List Int × α)) = [] := rfl
theorem kZ (k : Nat) (env : Env) (d : Nat) (v : DV) : freeze k env (d + 1) (.d v) = some (.d v) := rfl
theorem ZY (k : Nat) (env : Env) (d tm gm n : Nat) (es : List (List Int × α)) (h : env.get tm = some (.mapo gm n (Dx es))) : freeze k env (d + 2) (.mref k tm gm) = some (.d (.fmap n (es.map fun p => (p.1, Enc.enc p.2)))) := by
 have hm : ∀ es : List (List Int × α), (Dx es).mapM (fun p => ((freeze k env (d + 1) p.2).bind LV.toD).map fun v => (p.1, v)) = some (es.map fun p => (p.1, Enc.enc p.2)) := by
  intro es
  induction es with
  | nil => rfl
  | cons p es ih =>
   simp only [Dx] at ih
   simp only [Dx, List.map_cons, List.mapM_cons, FX.hf, Option.bind_some, LV.toD, Option.map_some, ih]
   rfl
 show (if k = k then match env.get tm with
   | some (.mapo g' n es) => if g' = gm then (es.mapM fun p => ((freeze k env (d + 1) p.2).bind LV.toD).map fun v => (p.1, v)).map fun es => LV.d (.fmap n es) else none
   | _ => none
  else some (.mref k tm gm)) = _
 simp only [if_true, h, hm, Option.map_some]
theorem eX {β : Type} [Enc β] (g : Nat) (r : List AD) (s : St) (tt : Option Nat) (ro : Option (Option Nat)) (n t gm u : Nat) (m i : Opd) (key : List Int) (es : List (List Int × Sl β)) (z a : Sl β)
  (hm : s.val LP m = .mref s.low.length t gm) (hr : An s.low.length ro (some (.mref s.low.length t gm)) = true) (hi : s.val LP i = .d (.int (Gy es key))) (hv : s.raw u = some (.v a.lv)) (hut : u ≠ t) (he : s.raw t = some (.mapo gm n (Dx (Eu z Sl.spent es key)))) :
  evalOps LP C g (⟨tt, .mstore n m i (.tmp u), none, ro⟩ :: r) s = evalOps LP C (g + 1) r ((s.upd u (.v a.spent.lv)).upd t (.mapo gm n (Dx (EX es key a)))) :=
 QU g r s _ tt ro n t gm m i (.tmp u) key es z a hm hr hi (TY hv) rfl (by rw [A2, if_neg hut]; exact he)
theorem sa {β : Type} [Enc β] (g : Nat) (r : List AD) (s : St) (tt : Option Nat) (ro : Option (Option Nat)) (n t gm u : Nat) (m k : Opd) (key : List Int) (es : List (List Int × Sl β)) (a : Sl β)
  (hm : s.val LP m = .mref s.low.length t gm) (hr : An s.low.length ro (some (.mref s.low.length t gm)) = true) (hk : (s.val LP k).key n = some key) (hv : s.raw u = some (.v a.lv)) (hut : u ≠ t) (he : s.raw t = some (.mapo gm n (Dx es))) :
  evalOps LP C g (⟨tt, .mapset n m k (.tmp u), none, ro⟩ :: r) s = evalOps LP C (g + 1) r ((s.upd u (.v a.spent.lv)).upd t (.mapo gm n (Dx (EX es key a)))) :=
 Ov g r s _ tt ro n t gm m k (.tmp u) key es a hm hr hk (TY hv) rfl (by rw [A2, if_neg hut]; exact he)
end
theorem zD (k : Nat) (env : Env) (d : Nat) (v : DV) : freeze k env (d + 1) (.d v) = some (.d v) := rfl
def yb (f : Nat) : Option (List LV) → Option (List LV) → Option LV
 | some a, some b => some (LV.norm (.fn f a b))
 | _, _ => none
theorem yV (k : Nat) (env : Env) (d f : Nat) (a b : List LV) : freeze k env (d + 1) (.fn f a b) = yb f (a.mapM (freeze k env d)) (b.mapM (freeze k env d)) := by
 simp only [freeze, yb]; cases a.mapM (freeze k env d) <;> cases b.mapM (freeze k env d) <;> rfl
theorem mj (f : Nat) (a b : List LV) : yb f (some a) (some b) = some (LV.norm (.fn f a b)) := rfl
def fzP (off : Nat) : Option (List LV) → Option LV
 | some cs => some (LV.norm (.fptr cs off))
 | none => none
theorem md {k t g : Nat} {env : Env} {cs : List LV} (h : env.get t = some (.box g cs)) (d off : Nat) : freeze k env (d + 1) (.ptr k t g off) = fzP off (cs.mapM (freeze k env d)) := by
 simp only [freeze, if_true, h]; cases cs.mapM (freeze k env d) <;> rfl
theorem qd (off : Nat) (cs : List LV) : fzP off (some cs) = some (LV.norm (.fptr cs off)) := rfl
theorem yN {k j : Nat} (h : j < k) (t g : Nat) (env : Env) (d off : Nat) : freeze k env (d + 1) (.ptr j t g off) = some (.ptr j t g off) := by
 simp only [freeze, if_neg (show ¬ j = k by omega)]
theorem rT {k j : Nat} (h : j < k) (t g : Nat) (env : Env) (d : Nat) : freeze k env (d + 1) (.mref j t g) = some (.mref j t g) := by
 simp only [freeze, if_neg (show ¬ j = k by omega)]
theorem VS (j t g : Nat) (r : List LV) : AW (.mref j t g :: r) = none := rfl
theorem tW {s : St} {r : Nat × Option (Option Nat)} {v : LV} (h : Rm s r = some v) : fin [r] s = some v := by
 simp [fin, h]
theorem fu : Enc.enc Fv.nil = .nilfn := rfl
theorem qY (k : Nat) (env : Env) (d : Nat) (ds : List DV) : (ds.map LV.d).mapM (freeze k env (d + 1)) = some (ds.map LV.d) := by
 induction ds with
 | nil => rfl
 | cons v ds ih => simp only [List.map_cons, List.mapM_cons, zD, ih]; rfl
theorem pG (ds : List DV) (off : Nat) : LV.norm (.fptr (ds.map LV.d) off) = .d (.fptr ds off) := by
 simp only [LV.norm, LV.toD, O7, Option.map_some]
theorem lD (v : DV) (off : Nat) : LV.norm (.fptr [.d v] off) = .d (.fptr [v] off) := rfl
theorem RS (cs : List LV) (off : Nat) (r : List LV) (h : AW cs = none) : AW (.fptr cs off :: r) = none := by simp only [AW, LV.toD, h, Option.map_none]
theorem ly (cs : List LV) (off : Nat) (h : AW cs = none) : LV.norm (.fptr cs off) = .fptr cs off := by simp only [LV.norm, LV.toD, h, Option.map_none]
def wo : Option LV → Option (List LV) → Option (List LV)
 | some y, some ys => some (y :: ys)
 | _, _ => none
theorem kw (y : LV) (ys : List LV) : wo (some y) (some ys) = some (y :: ys) := rfl
theorem vi (f : LV → Option LV) : ([] : List LV).mapM f = some [] := rfl
theorem xG (f : LV → Option LV) (x : LV) (r : List LV) : (x :: r).mapM f = wo (f x) (r.mapM f) := by
 simp only [List.mapM_cons]; cases f x with
 | none => rfl
 | some y => cases r.mapM f <;> rfl
theorem mg (s : St) (t : Nat) : Rm s (t, none) = freeze s.low.length s.env 9 (uc s.low.length t (s.raw t)) := by
 simp only [Rm, CC, Lc]; rfl
theorem Rr {n : Nat} {xs cs : List LV} (h1 : cs.length = n) (h2 : xs.length = n) (h3 : xs.all LV.cellOk = true) : Da n 0 xs cs = some xs := by
 simp only [Da, h1, h2, h3, Nat.zero_add, Nat.le_refl, and_self, if_true]
 simp [setCells, h1, h2]
theorem RV (cs : List LV) : LV.known (.agg cs) = some cs := rfl
theorem KL {LP : Aw} {C : AM} (g : Nat) (r : List AD) (s : St) (n t g' off u : Nat) (xs : List LV) (h : s.raw u = some (.v (.agg xs))) :
  RF LP C g r s n t g' off (.tmp u) (some (.v (.agg xs))) = gJ LP C g r ((GH n off g' (some xs) (s.raw t)).map fun x => s.upd t x) := by
 show IK LP C g r s n (.ptr s.low.length t g' off) (.tmp u) = _
 have ht : s.take LP (.tmp u) = (.agg xs, s) := by
  unfold St.raw at h
  simp only [St.take, h, St.slot, LV.copy]
 simp only [IK, ht, IR, RV]
 cases hr : s.raw t with
 | none => rfl
 | some z => cases z with
  | box g2 cs =>
   simp only [GH]
   by_cases hg : g2 = g'
   ·subst hg
    simp only [if_true]
    by_cases hc : xs.length = n ∧ off + n ≤ cs.length ∧ xs.all LV.cellOk = true
    ·simp only [if_pos hc, Option.map_some, St.setAt, if_true, St.upd]
    ·simp only [if_neg hc, Option.map_none]
   ·simp only [if_neg hg]; rfl
  | _ => rfl
def J3 {σ α : Type} (LP : Aw) (R : σ → List Fr → Prop) (j g : Nat) (A : α → List LV) (yf : α → σ → Option (Bool × σ)) : Prop :=
 ∀ x s b s', yf x s = some (b, s') → ∀ low, R s low → ∀ (above : List Fr) (ctr : Nat), ∃ low' c, R s' low' ∧ (om LP).round j g (A x) (low ++ above) ctr = some (b, low' ++ above, c)
def tZ {σ : Type} (R : σ → List Fr → Prop) (fr : Fr) (s : σ) (low1 : List Fr) : Prop := ∃ low, low1 = low ++ [fr] ∧ R s low
def qi {σ : Type} (LP : Aw) (n : Nat) (args : List LV) (R : σ → List Fr → Prop) (low : List Fr) (v : LV) (s' : σ) : Prop := ∀ ctr, ∃ low' ctr', R s' low' ∧ rB LP n args low ctr v low' ctr'
section
variable {σ α : Type} {LP : Aw} {R : σ → List Fr → Prop} {N : Nat}
theorem J3.push {j g : Nat} {A : α → List LV} {yf : α → σ → Option (Bool × σ)} (h : J3 LP R j g A yf) (fr : Fr) : J3 LP (tZ R fr) j g A yf := by
 rintro x s b s' hx low1 ⟨low, rfl, hR⟩ above ctr
 obtain ⟨low', c, hR', he⟩ := h x s b s' hx low hR ([fr] ++ above) ctr
 exact ⟨low' ++ [fr], c, ⟨low', rfl, hR'⟩, by simpa using he⟩
theorem ka (hN : ∀ s low, R s low → low.length = N) (fr : Fr) : ∀ s low1, tZ R fr s low1 → low1.length = N + 1 := by
 rintro s low1 ⟨low, rfl, hR⟩
 simp [hN s low hR]
theorem NC {j t : Nat} {x : A6} (h : ∀ s low, R s low → JH low j t = some x) (fr : Fr) : ∀ s low1, tZ R fr s low1 → JH low1 j t = some x := by
 rintro s low1 ⟨low, rfl, hR⟩
 exact Ve (h s low hR)
theorem vZ {N : Nat} {low : List Fr} {e : Env} {l : Option KV} {t : Nat} {x : A6} (hN : low.length = N) (h : Env.get t e = some x) : JH (low ++ [⟨e, l⟩]) N t = some x := by
 rw [← hN]
 exact Z2 h
theorem Po (hN : ∀ s low, R s low → low.length = N) {e : Env} {l : Option KV} {t : Nat} {x : A6} (h : Env.get t e = some x) : ∀ s low1, tZ R ⟨e, l⟩ s low1 → JH low1 N t = some x := by
 rintro s low1 ⟨low, rfl, hR⟩
 rw [← hN s low hR]
 exact Z2 h
noncomputable def nt (LP : Aw) (n : Nat) (args : List LV) (low : List Fr) (ctr : Nat) : List Fr := match (om LP).call n args low ctr with
 | some (_, l, _) => l.dropLast
 | none => []
noncomputable def sG (LP : Aw) (j g : Nat) (args : List LV) (low : List Fr) (ctr : Nat) : List Fr := match (om LP).round j g args low ctr with
 | some (_, l, _) => l.dropLast
 | none => []
noncomputable def xm (LP : Aw) (j g : Nat) (args : List LV) (low : List Fr) (ctr : Nat) : Nat := match (om LP).round j g args low ctr with
 | some (_, _, c) => c
 | none => 0
theorem qi.om {n : Nat} {args : List LV} {low : List Fr} {fr : Fr} {v : LV} {s' : σ} (hN : ∀ s low, R s low → low.length = N) {s : σ} (hR : R s low) (h : qi LP n args (tZ R fr) (low ++ [fr]) v s') (ctr : Nat) :
  (Lf.om LP).call n args (low ++ [fr]) ctr = some (v, nt LP n args (low ++ [fr]) ctr ++ [fr], f8 LP n args (low ++ [fr]) ctr) ∧ R s' (nt LP n args (low ++ [fr]) ctr) ∧ (nt LP n args (low ++ [fr]) ctr).length = low.length := by
 obtain ⟨low1, c, ⟨low', rfl, hR'⟩, he⟩ := h ctr
 have := JS.mpr he
 have e1 : nt LP n args (low ++ [fr]) ctr = low' := by simp [nt, this]
 have e2 : f8 LP n args (low ++ [fr]) ctr = c := by simp [f8, this]
 rw [e1, e2]
 exact ⟨this, hR', by rw [hN _ _ hR, hN _ _ hR']⟩
theorem J3.om {j g : Nat} {A : α → List LV} {yf : α → σ → Option (Bool × σ)} (h : J3 LP R j g A yf) (hN : ∀ s low, R s low → low.length = N) {x : α} {s s' : σ} {b : Bool} {low : List Fr} (hR : R s low) (hx : yf x s = some (b, s')) (fr : Fr) (ctr : Nat) :
  (Lf.om LP).round j g (A x) (low ++ [fr]) ctr = some (b, sG LP j g (A x) (low ++ [fr]) ctr ++ [fr], xm LP j g (A x) (low ++ [fr]) ctr) ∧ R s' (sG LP j g (A x) (low ++ [fr]) ctr) ∧ (sG LP j g (A x) (low ++ [fr]) ctr).length = low.length := by
 obtain ⟨low', c, hR', he⟩ := h x s b s' hx low hR [fr] ctr
 have e1 : sG LP j g (A x) (low ++ [fr]) ctr = low' := by simp [sG, he]
 have e2 : xm LP j g (A x) (low ++ [fr]) ctr = c := by simp [xm, he]
 rw [e1, e2]
 exact ⟨he, hR', by rw [hN _ _ hR, hN _ _ hR']⟩
def yU (lf : EQ) (R : σ → List Fr → Prop) (s' : σ) (v : LV) (j : zk) (s : St) : Prop := (j = .normal ∨ j = .ret) ∧ R s' s.low ∧ fin lf.results s = some v
theorem wX {n : Nat} {lf : EQ} {args : List LV} {low : List Fr} {v : LV} {s' : σ} (B : List Nat) (hf : LP.funcs n = some lf) (hl : args.length = lf.nparams)
  (h : ∀ s, (∀ t, s.raw t = (Cm 0 args).get t) → s.low = low → NoB B s → Run LP [] lf.body s (yU lf R s' v)) : qi LP n args R low v s' := by
 intro ctr
 obtain ⟨j, s1, hc, hj, hR, hr⟩ := h { env := Cm 0 args, low, ctr } (fun _ => rfl) rfl (VR _ _ _ _)
 exact ⟨s1.low, s1.ctr, hR, rB.func (jmp := j) hf hl hc hj (v := v) hr⟩
end
def St.mergedL (s : St) (vis : List Nat) (low : List Fr) (c : Nat) : St := ⟨Env.merge vis s.env (s.env.keep vis), low, c⟩
theorem V9 (s : St) (vis : List Nat) (low : List Fr) (c t : Nat) : (s.mergedL vis low c).raw t = s.raw t := NI s vis c t
theorem R2 (s : St) (vis : List Nat) (low : List Fr) (c t : Nat) : (s.mergedL vis low c).free t = s.free t := ON s vis c t
theorem Ue (s : St) (vis : List Nat) (low : List Fr) (c : Nat) : (s.mergedL vis low c).low = low := rfl
theorem dI {LP : Aw} {C : AM} (g : Nat) (r : List AD) (s : St) (t : Option Nat) (vis : List Nat) (v : LV) (c : Nat) (low2 : List Fr) (h : low2.length = s.low.length) :
  Ll LP C g r s t vis (some (v, low2 ++ [⟨s.env.keep vis, none⟩], c)) = Hj LP C g r (s.mergedL vis low2 c) t (some v) := by
 simp [Ll, St.mergedL, h]
theorem pD (j g : Nat) : (LV.yield j g).copy = .yield j g := rfl
theorem pi (f : Nat) (a b : List LV) : (LV.fn f a b).copy = .fn f a b := rfl
theorem jW (j t g o : Nat) : (LV.ptr j t g o).copy = .ptr j t g o := rfl
theorem f7 (j t g : Nat) : (LV.mref j t g).copy = .mref j t g := rfl
theorem jo (a : List LV) : (LV.agg a).copy = .agg a := rfl
theorem fg (a : List LV) (o : Nat) : (LV.fptr a o).copy = .fptr a o := rfl
theorem SA (off : Nat) (cs : List LV) (o : Nat) : Hz off (.fptr cs o) = some (.fptr cs (o + off)) := rfl
theorem sn (j g : Nat) : ZK 1 (.yield j g) = some [.yield j g] := rfl
theorem oY (k t j g : Nat) : KI k t (.v (.yield j g)) = .yield j g := rfl
def yv : Option (Bool × List Fr × Nat) → Option (LV × List Fr × Nat)
 | some (b, l, c) => some (.d (.bool b), l, c)
 | none => none
theorem oM (b : Bool) (l : List Fr) (c : Nat) : yv (some (b, l, c)) = some (.d (.bool b), l, c) := rfl
def lP (LP : Aw) (C : AM) (g : Nat) (r : List AD) (s : St) (t : Option Nat) (ro : Option (Option Nat)) (u : Nat) (args : List Opd) (vis : List Nat) : LV → Option St
 | .d (.fn f a b) => Ll LP C (g + 1) r s t vis (C.call f (a.map .d ++ args.map (s.val LP) ++ b.map .d) (s.low ++ [⟨s.env.keep vis, none⟩]) s.ctr)
 | .fn f a b => Ll LP C (g + 1) r s t vis (C.call f (a ++ args.map (s.val LP) ++ b) (s.low ++ [⟨s.env.keep vis, none⟩]) s.ctr)
 | .yield j g' => Ll LP C (g + 1) r s t vis (yv (C.round j g' (args.map (s.val LP)) (s.low ++ [⟨s.env.keep vis, none⟩]) s.ctr))
 | _ => evalOps LP C g (⟨t, .call (.tmp u) args (some vis), none, ro⟩ :: r) s
theorem jl {LP : Aw} {C : AM} (g : Nat) (r : List AD) (s : St) (t : Option Nat) (ro : Option (Option Nat)) (u : Nat) (args : List Opd) (vis : List Nat) :
  evalOps LP C g (⟨t, .call (.tmp u) args (some vis), none, ro⟩ :: r) s = lP LP C g r s t ro u args vis (s.slot u) := by
 have key : ∀ x, s.slot u = x → evalOps LP C g (⟨t, .call (.tmp u) args (some vis), none, ro⟩ :: r) s = lP LP C g r s t ro u args vis x := by
  intro x hx
  have h1 := qp (LP := LP) (C := C) g r s t ro u args vis
  cases x with
  | d v => cases v with
   | fn f a b => rw [h1, hx]; rfl
   | _ => rfl
  | fn f a b => rw [h1, hx]; rfl
  | yield j g' =>
   have hr : An s.low.length ro none = true := by cases ro <;> rfl
   simp only [evalOps, Ag, zn.addr, Option.map_none, hr, if_true, evalOp, St.val, hx, lP]
   cases C.round j g' (args.map (s.val LP)) (s.low ++ [⟨s.env.keep vis, none⟩]) s.ctr with
   | none => rfl
   | some p =>
    obtain ⟨b, low', c'⟩ := p
    simp only [Ll, yv]
    cases low'.getLast? with
    | none => rfl
    | some fr =>
     simp only
     by_cases hl : low'.length = s.low.length + 1
     ·simp only [if_pos hl]; rfl
     ·simp only [if_neg hl]
  | _ => rfl
 exact key _ rfl
theorem oj (LP : Aw) (C : AM) (g : Nat) (r : List AD) (s : St) (t : Option Nat) (ro : Option (Option Nat)) (u : Nat) (args : List Opd) (vis : List Nat) (f : Nat) (a b : List DV) :
 lP LP C g r s t ro u args vis (.d (.fn f a b)) = Ll LP C (g + 1) r s t vis (C.call f (a.map .d ++ args.map (s.val LP) ++ b.map .d) (s.low ++ [⟨s.env.keep vis, none⟩]) s.ctr) := rfl
theorem jH (LP : Aw) (C : AM) (g : Nat) (r : List AD) (s : St) (t : Option Nat) (ro : Option (Option Nat)) (u : Nat) (args : List Opd) (vis : List Nat) (f : Nat) (a b : List LV) :
 lP LP C g r s t ro u args vis (.fn f a b) = Ll LP C (g + 1) r s t vis (C.call f (a ++ args.map (s.val LP) ++ b) (s.low ++ [⟨s.env.keep vis, none⟩]) s.ctr) := rfl
theorem pV (LP : Aw) (C : AM) (g : Nat) (r : List AD) (s : St) (t : Option Nat) (ro : Option (Option Nat)) (u : Nat) (args : List Opd) (vis : List Nat) (j g' : Nat) :
 lP LP C g r s t ro u args vis (.yield j g') = Ll LP C (g + 1) r s t vis (yv (C.round j g' (args.map (s.val LP)) (s.low ++ [⟨s.env.keep vis, none⟩]) s.ctr)) := rfl
theorem rA {LP : Aw} {ks : List gG} {J : zk → St → Prop} {s : St} {B : List Nat} {ops : List AD} {keep : List Nat} {low : List Fr} {Q : List Fr → Prop} (l : List (Nat × A6)) (hl : s.low = low) (hf : NoB B s) (hB : ops.all (opB B) = true) (hk : l.all (fun p => keep.contains p.1) = true)
  (h : ∃ s1, Lf.evalOps LP (om LP) s.ctr ops (s.tick ops.length) = some s1 ∧ CB l s1 ∧ Q s1.low)
  (h' : ∀ s', Em l s' → Q s'.low → NoB B s' → ET LP ks .normal s' J) : Run LP ks (.ops ops keep) s J := by
 obtain ⟨s1, he, hr, hl1⟩ := h
 have hf1 : NoB B s1 := NoB.evalOps hB (show NoB B (s.tick ops.length) from hf) he
 obtain ⟨e, lw, c⟩ := s
 exact ⟨.normal, { s1 with env := s1.env.keep keep }, .ops (NK he), h' _ (CB.keep hk hr).r hl1 (NoB.keep keep hf1)⟩
theorem uC (s : St) : fin [] s = some (.d (.tup [])) := rfl
def FS (low : List Fr) (j t : Nat) (x : A6) : List Fr := low.modify j fun fr => { fr with env := fr.env.set t x }
def St.setL (s : St) (j t : Nat) (x : A6) : St := { s with low := FS s.low j t x }
theorem M9 (low : List Fr) (j t : Nat) (x : A6) : (FS low j t x).length = low.length := by simp [FS]
theorem TX (s : St) (j t u : Nat) (x : A6) : (s.setL j t x).raw u = s.raw u := rfl
theorem PW (s : St) (j t u : Nat) (x : A6) : (s.setL j t x).free u = s.free u := rfl
theorem TT (s : St) (j t : Nat) (x : A6) : (s.setL j t x).low = FS s.low j t x := rfl
theorem Jz (s : St) (j t : Nat) (x : A6) (h : j < s.low.length) : s.setAt j t x = s.setL j t x := by
 simp only [St.setAt, if_neg (show ¬ j = s.low.length by omega)]; rfl
theorem KP {low : List Fr} {j t t' : Nat} {x : A6} (h : j < low.length) : JH (FS low j t x) j t' = if t = t' then some x else JH low j t' := by
 simp only [JH, FS, List.getElem?_modify_eq]
 rw [List.getElem?_eq_getElem h]
 exact Ij ..
theorem J1 {s : St} {j t g : Nat} (h : j < s.low.length) : s.cells j t g = match JH s.low j t with
  | some (.box g' cs) => if g' = g then some cs else none
  | _ => none := by
 simp only [St.cells, St.at, if_neg (show ¬ j = s.low.length by omega), JH]
 rw [List.getElem?_eq_getElem h]
 simp only
 cases (s.low[j]).env.get t with
 | none => rfl
 | some x => cases x <;> rfl
theorem NJ (s : St) (k : Option Nat) (j t g off : Nat) (h : j < s.low.length) : Qb s k none (.ptr j t g off) = GX k off g (JH s.low j t) := by
 simp only [Qb, An, if_true, J1 h]
 cases JH s.low j t with
 | none => rfl
 | some x => cases x with
  | box g' cs =>
   simp only [GX]
   by_cases hg : g' = g
   ·simp only [if_pos hg]
   ·simp only [if_neg hg]
  | _ => rfl
theorem G8 {low : List Fr} {j t : Nat} {x : A6} (h : JH low j t = some x) : FS low j t x = low := by
 have hj := ic h
 simp only [JH] at h
 rw [List.getElem?_eq_getElem hj] at h
 simp only [FS]
 apply List.ext_getElem?
 intro i
 rw [List.getElem?_modify]
 by_cases hi : j = i
 ·subst hi
  rw [List.getElem?_eq_getElem hj]
  have h2 := MH _ _ _ h
  show some (if j = j then { low[j] with env := low[j].env.set t x } else low[j]) = some low[j]
  rw [if_pos rfl, h2]
 ·simp [hi]
section
variable {LP : Aw} {C : AM}
theorem t4 (g : Nat) (r : List AD) (s : St) (n j t g' off : Nat) (x : Opd) (v : DV) (hj : j < s.low.length) (hx : lE s x = some (.v (.d v))) :
  IK LP C g r s n (.ptr j t g' off) x = gJ LP C g r ((GH n off g' (LV.known (.d v)) (JH s.low j t)).map fun b => s.setL j t b) := by
 have ht : s.take LP x = (.d v, s) := gW hx
 simp only [IK, ht, J1 hj]
 cases JH s.low j t with
 | none => rfl
 | some z => cases z with
  | box g2 cs =>
   simp only [GH]
   by_cases hg : g2 = g'
   ·subst hg
    simp only [if_true]
    cases LV.known (.d v) with
    | none => rfl
    | some xs =>
     simp only
     by_cases hc : xs.length = n ∧ off + n ≤ cs.length ∧ xs.all LV.cellOk = true
     ·simp only [if_pos hc, Option.map_some, Jz s j t _ hj]
     ·simp only [if_neg hc]; rfl
   ·simp only [if_neg hg]
    cases LV.known (.d v) <;> rfl
  | _ => rfl
theorem fJ {β : Type} [Enc β] (g : Nat) (r : List AD) (s : St) (n j t g' off u : Nat) (x : Sl β) (hj : j < s.low.length) (hx : s.raw u = some (.v x.lv)) :
  IK LP C g r s n (.ptr j t g' off) (.tmp u) = gJ LP C g r ((GH n off g' (some [x.lv]) (JH s.low j t)).map fun b => (s.upd u (.v x.spent.lv)).setL j t b) := by
 have ht : s.take LP (.tmp u) = (x.lv, s.upd u (.v x.spent.lv)) := TY hx
 have hj2 : j < (s.upd u (.v x.spent.lv)).low.length := hj
 simp only [IK, ht, J1 hj2, Ta, cG]
 cases JH s.low j t with
 | none => rfl
 | some z => cases z with
  | box g2 cs =>
   simp only [GH]
   by_cases hg : g2 = g'
   ·subst hg
    simp only [if_true]
    by_cases hc : [x.lv].length = n ∧ off + n ≤ cs.length ∧ [x.lv].all LV.cellOk = true
    ·simp only [if_pos hc, Option.map_some, Jz _ j t _ hj2]
    ·simp only [if_neg hc]; rfl
   ·simp only [if_neg hg]; rfl
  | _ => rfl
theorem FQ {s : St} {d : Nat} (v : LV) (h : s.free d = true) : s.put (some d) v = some (s.upd d (.v v)) := by
 simp only [St.put, St.free, St.raw] at h ⊢
 cases hx : s.env.get d with
 | none => rfl
 | some w => rw [hx] at h; cases w <;> simp_all [A6.isV, St.upd]
theorem eO {β : Type} [Enc β] (g : Nat) (r : List AD) (s : St) (d : Nat) (p : Opd) (j t gb : Nat) (x : Sl β) (hp : s.val LP p = .ptr j t gb 0) (hj : j < s.low.length) (hb : JH s.low j t = some (.box gb [x.lv])) (hd : s.free d = true) :
  evalOps LP C g (⟨some d, .load none p true, none, none⟩ :: r) s = evalOps LP C (g + 1) r ((s.setL j t (.box gb [x.spent.lv])).upd d (.v x.lv)) := by
 have hc : s.cells j t gb = some [x.lv] := by rw [J1 hj, hb]; simp
 have hr : An s.low.length none (some (LV.ptr j t gb 0)) = true := rfl
 have hd2 : ∀ y, (s.setL j t y).free d = true := fun y => hd
 simp only [evalOps, Ag, zn.addr, Option.map_some, hp, hr, if_true, evalOp, hc]
 cases x with
 | hot xs =>
  have e : (Sl.hot xs).lv = LV.hot (Enc.n β) (xs.map Enc.enc) := rfl
  have e2 : (Sl.hot xs).spent.lv = LV.d (.slice (Enc.n β) (xs.map Enc.enc)) := rfl
  simp only [e, e2, List.getElem?_cons_zero, List.set_cons_zero, Jz s j t _ hj, FQ _ (hd2 _)]
 | nil =>
  rw [show (Sl.nil : Sl β).spent = Sl.nil from rfl]
  have e3 : s.setL j t (.box gb [(Sl.nil : Sl β).lv]) = s := by simp only [St.setL, G8 hb]
  rw [e3]
  simp only [Sl.lv, List.getElem?_cons_zero, part, Option.map_some, LV.copy, FQ _ hd]
 | cold xs =>
  rw [show (Sl.cold xs).spent = Sl.cold xs from rfl]
  have e3 : s.setL j t (.box gb [(Sl.cold xs).lv]) = s := by simp only [St.setL, G8 hb]
  rw [e3]
  simp only [Sl.lv, List.getElem?_cons_zero, part, Option.map_some, LV.copy, FQ _ hd]
 | full xs =>
  rw [show (Sl.full xs).spent = Sl.full xs from rfl]
  have e3 : s.setL j t (.box gb [(Sl.full xs).lv]) = s := by simp only [St.setL, G8 hb]
  rw [e3]
  simp only [Sl.lv, List.getElem?_cons_zero, part, Option.map_some, LV.copy, FQ _ hd]
theorem VT {s : St} {j t g n : Nat} {es : List (List Int × LV)} (hj : j < s.low.length) (h : JH s.low j t = some (.mapo g n es)) : s.entries j t g n = some es := by
 simp only [JH] at h
 simp only [St.entries, St.at, if_neg (show ¬ j = s.low.length by omega)]
 rw [List.getElem?_eq_getElem hj] at h ⊢
 simp only at h ⊢
 rw [h]; simp
variable {α : Type} [FX α]
theorem Zu (g : Nat) (r : List AD) (s : St) (u : Nat) (n j t gm : Nat) (m k : Opd) (zd : DV) (key : List Int) (es : List (List Int × α)) (z : α)
  (hm : s.val LP m = .mref j t gm) (hj : j < s.low.length) (hk : (s.val LP k).key n = some key) (he : JH s.low j t = some (.mapo gm n (Dx es))) (hz : FX.elv z = .d zd) (hu : s.free u = true) :
  evalOps LP C g (⟨some u, .mentry n m k zd, none, none⟩ :: r) s = evalOps LP C (g + 1) r ((s.setL j t (.mapo gm n (Dx (Eu z FX.coolE es key)))).upd u (.v (.tup [FX.elv (NW z es key), .d (.int (Gy es key))]))) := by
 have h1 : s.entries j t gm n = some (Dx es) := VT hj he
 have hp : ∀ (x : A6) (y : LV), (s.setL j t x).put (some u) y = some ((s.setL j t x).upd u (.v y)) := fun x y => FQ y hu
 have hr : An s.low.length none (some (LV.mref j t gm)) = true := rfl
 simp only [evalOps, Ag, zn.addr, Option.map_some, hm, hr, if_true, evalOp, hk, h1, Jz s j t _ hj, cP, NW, Gy, Eu]
 cases AN key es 0 with
 | none =>
  simp only [Option.map_none, hp, ← hz]
  congr 3
  ·simp [Dx]
  ·simp [Dx]
 | some p =>
  obtain ⟨i, x⟩ := p
  simp only [Option.map_some, hp, FX.hc]
  congr 3
  simp [Dx, List.map_set]
theorem Z3 {β : Type} [Enc β] (g : Nat) (r : List AD) (s : St) (n j t gm u : Nat) (m i : Opd) (key : List Int) (es : List (List Int × Sl β)) (z a : Sl β)
  (hm : s.val LP m = .mref j t gm) (hj : j < s.low.length) (hi : s.val LP i = .d (.int (Gy es key))) (hv : s.raw u = some (.v a.lv)) (he : JH s.low j t = some (.mapo gm n (Dx (Eu z Sl.spent es key)))) :
  evalOps LP C g (⟨none, .mstore n m i (.tmp u), none, none⟩ :: r) s = evalOps LP C (g + 1) r ((s.upd u (.v a.spent.lv)).setL j t (.mapo gm n (Dx (EX es key a)))) := by
 have hj2 : j < (s.upd u (.v a.spent.lv)).low.length := hj
 have h1 : (s.upd u (.v a.spent.lv)).entries j t gm n = some (Dx (Eu z Sl.spent es key)) := VT hj2 he
 have hg : s.take LP (.tmp u) = (a.lv, s.upd u (.v a.spent.lv)) := TY hv
 have hr : An s.low.length none (some (LV.mref j t gm)) = true := rfl
 have h3 : E1 (.d (.int (Gy es key))) = some (Gy es key).toNat := by
  apply ZL
  simp only [Gy]; cases AN key es 0 with
  | none => simp
  | some p => simp
 simp only [evalOps, Ag, zn.addr, Option.map_some, hm, hr, if_true, evalOp, hi, h3, hg, h1, Jz _ j t _ hj2]
 cases hq : AN key es 0 with
 | none =>
  have e1 : (Gy es key).toNat = es.length := by simp [Gy, hq]
  have e2 : Eu z Sl.spent es key = es ++ [(key, z)] := by simp [Eu, hq]
  have e3 : EX es key a = es ++ [(key, a)] := by simp [EX, hq]
  rw [e1, e2, e3]
  have e4 : (Dx (es ++ [(key, z)]))[es.length]? = some (key, FX.elv z) := by simp [Dx]
  rw [e4]
  simp only
  congr 3
  simp [Dx, js]
 | some p =>
  obtain ⟨q, x⟩ := p
  obtain ⟨_, hjx, _⟩ := Kt key es 0 q x hq
  have e1 : (Gy es key).toNat = q := by simp [Gy, hq]
  have e2 : Eu z Sl.spent es key = es.set q (key, x.spent) := by simp [Eu, hq]
  have e3 : EX es key a = es.set q (key, a) := by simp [EX, hq]
  rw [e1, e2, e3]
  have e4 : (Dx (es.set q (key, x.spent)))[q]? = some (key, FX.elv x.spent) := by
   simp only [Dx, List.getElem?_map]
   rw [List.getElem?_set_self (by omega)]; rfl
  rw [e4]
  simp only
  congr 3
  simp [Dx, List.map_set, List.set_set, js]
end
def NZ (B : List Nat) (base above : List Fr) (lp : KV) (l : List (Nat × A6)) (low : List Fr) : Prop :=
 ∃ e, low = base ++ [⟨e, some lp⟩] ++ above ∧ NoB B ⟨e, base, 0⟩ ∧ CB l ⟨e, base, 0⟩
def sE (j : Nat) : List (Nat × A6) → List Fr → Prop
 | [], _ => True
 | (t, x) :: l, low => JH low j t = some x ∧ sE j l low
section
variable {B : List Nat} {base above : List Fr} {lp : KV} {l l' : List (Nat × A6)} {low : List Fr}
theorem NZ.len (h : NZ B base above lp l low) : low.length = base.length + 1 + above.length := by
 obtain ⟨e, rfl, _⟩ := h; simp; omega
theorem qZ (base above : List Fr) (e : Env) (o : Option KV) (t : Nat) : JH (base ++ [⟨e, o⟩] ++ above) base.length t = e.get t := by
 simp [JH]
theorem NZ.all (h : NZ B base above lp l low) : sE base.length l low := by
 obtain ⟨e, rfl, _, hr⟩ := h
 induction l with
 | nil => trivial
 | cons p l ih => obtain ⟨t, x⟩ := p; exact ⟨by rw [qZ]; exact hr.1, ih hr.2⟩
theorem Qr (f : Fr → Fr) (x : Fr) (b : List Fr) : ∀ a : List Fr, (a ++ [x] ++ b).modify a.length f = a ++ [f x] ++ b
 | [] => rfl
 | y :: a => by
  have := Qr f x b a
  show (y :: (a ++ [x] ++ b)).modify (a.length + 1) f = _
  rw [List.modify_succ_cons, this]; rfl
theorem lB (base above : List Fr) (e : Env) (o : Option KV) (t : Nat) (x : A6) : FS (base ++ [⟨e, o⟩] ++ above) base.length t x = base ++ [⟨e.set t x, o⟩] ++ above := Qr _ _ _ _
theorem NZ.set (h : NZ B base above lp l low) (t : Nat) (x : A6) (hB : B.contains t = true) (hl : ∀ s, CB l s → CB l' (s.upd t x)) : NZ B base above lp l' (FS low base.length t x) := by
 obtain ⟨e, rfl, hn, hr⟩ := h
 exact ⟨e.set t x, lB .., MW (s := ⟨e, base, 0⟩) t x hB hn, hl _ hr⟩
theorem ns (h : NZ B base above lp l low) (hl : ∀ s, CB l s → CB l' s) : NZ B base above lp l' low := by
 obtain ⟨e, rfl, hn, hr⟩ := h
 exact ⟨e, rfl, hn, hl _ hr⟩
end
def onL {α τ X : Type} (F : α → τ → Option (Bool × (τ ⊕ X))) (x : α) : τ ⊕ X → Option (Bool × (τ ⊕ X))
 | .inl t => F x t
 | .inr _ => none
def Rk {τ X : Type} (g : Nat) (params : List Nat) (assign body : B6) (jm : X → zk) : τ ⊕ X → KV
 | .inl _ => { gen := g, params, assign, body, ready := true, pending := none }
 | .inr x => { gen := g, params, assign, body, ready := false, pending := some (jm x) }
def uW {τ X : Type} (B : List Nat) (base : List Fr) (g : Nat) (params : List Nat) (assign body : B6) (jm : X → zk) (l : τ ⊕ X → List (Nat × A6)) (st : τ ⊕ X) (low : List Fr) : Prop :=
 NZ B base [] (Rk g params assign body jm st) (l st) low
theorem OG (base above : List Fr) (e : Env) (r : KV) (a : Bool) (p : Option zk) : H5 (base ++ [⟨e, some r⟩] ++ above) base.length a p = base ++ [⟨e, some { r with ready := a, pending := p }⟩] ++ above := by
 exact Qr _ _ _ _
theorem Q8 (base above : List Fr) (e : Env) (r : KV) : Nq (base ++ [⟨e, some r⟩] ++ above) base.length r.gen = some r := by
 simp [Nq]
def pE {τ X : Type} (B : List Nat) (base above : List Fr) (lp : KV) (jm : X → zk) (l : τ ⊕ X → List (Nat × A6)) (out : Bool × (τ ⊕ X)) (j : zk) (s : St) : Prop := match out.2 with
 | .inl t => out.1 = true ∧ j = .normal ∧ NZ B base above lp (l (.inl t)) s.low
 | .inr x => out.1 = false ∧ j = jm x ∧ jm x ≠ .normal ∧ NZ B base above lp (l (.inr x)) s.low
theorem Xt {LP : Aw} {α τ X : Type} {B : List Nat} {base : List Fr} {g : Nat} {params : List Nat} {assign body : B6} {jm : X → zk} {l : τ ⊕ X → List (Nat × A6)} {A : α → List LV} {F : α → τ → Option (Bool × (τ ⊕ X))}
  (hA : ∀ x, (A x).length = params.length)
  (h : ∀ (x : α) (t : τ) (out : Bool × (τ ⊕ X)), F x t = some out → ∀ (e : Env) (above : List Fr) (ctr : Nat), NoB B ⟨e, base, 0⟩ → CB (l (.inl t)) ⟨e, base, 0⟩ →
   Run LP [] assign ⟨E0 params (A x) (e.map fun p => (p.1, EZ base.length p.1 p.2)), base ++ [⟨e, some { gen := g, params, assign, body, ready := true, pending := none }⟩] ++ above, ctr⟩ fun j s1 => j = .normal ∧
    s1.low = base ++ [⟨e, some { gen := g, params, assign, body, ready := true, pending := none }⟩] ++ above ∧
    Run LP [] body { s1 with low := base ++ [⟨e, some { gen := g, params, assign, body, ready := false, pending := none }⟩] ++ above } (pE B base above { gen := g, params, assign, body, ready := false, pending := none } jm l out)) :
  J3 LP (uW B base g params assign body jm l) base.length g A (onL F) := by
 rintro x st b st' hF low1 ⟨e, rfl, hn, hr⟩ above ctr
 cases st with
 | inr y => simp [onL] at hF
 | inl t =>
  simp only [onL] at hF
  obtain ⟨j1, s1, hc1, rfl, hl1, j2, s2, hc2, he2⟩ := h x t (b, st') hF e above ctr hn hr
  obtain ⟨n1, hn1⟩ := hc1
  obtain ⟨n2, hn2⟩ := hc2
  have a1 := DJ LP (Ew LP (Nat.le_max_left n1 n2)) (Nat.le_max_left n1 n2) hn1
  have a2 := DJ LP (Ew LP (Nat.le_max_right n1 n2)) (Nat.le_max_right n1 n2) hn2
  have hsl : H5 s1.low base.length false none = base ++ [⟨e, some { gen := g, params, assign, body, ready := false, pending := none }⟩] ++ above := by
   rw [hl1]; exact OG ..
  have hla : Nq s1.low base.length g = some { gen := g, params, assign, body, ready := true, pending := none } := by
   rw [hl1]; exact Q8 base above e { gen := g, params, assign, body, ready := true, pending := none }
  have hlow : (base ++ [⟨e, some (Rk g params assign body jm (.inl t : τ ⊕ X))⟩] ++ [] ++ above)[base.length]? = some ⟨e, some (Rk g params assign body jm (.inl t : τ ⊕ X))⟩ := by simp
  have key : ∀ r, endRound base.length g j2 s2 = some r → (Lf.om LP).round base.length g (A x) (base ++ [⟨e, some (Rk g params assign body jm (.inl t : τ ⊕ X))⟩] ++ [] ++ above) ctr = some r := by
   intro r hr2
   refine jL.mpr ⟨max n1 n2 + 1, ?_⟩
   simp only [C5, C6, hlow]
   have hcond : (Rk g params assign body jm (.inl t : τ ⊕ X)).gen = g ∧ (Rk g params assign body jm (.inl t : τ ⊕ X)).ready = true ∧ (Rk g params assign body jm (.inl t : τ ⊕ X)).pending = none ∧ (A x).length = (Rk g params assign body jm (.inl t : τ ⊕ X)).params.length := ⟨rfl, rfl, rfl, hA x⟩
   rw [if_pos hcond]
   simp only [List.append_nil]
   have a1' : AP LP (C5 LP (max n1 n2)) (max n1 n2) (Rk g params assign body jm (.inl t : τ ⊕ X)).assign { env := E0 (Rk g params assign body jm (.inl t : τ ⊕ X)).params (A x) (List.map (fun p => (p.1, EZ base.length p.1 p.2)) e), low := base ++ [⟨e, some (Rk g params assign body jm (.inl t : τ ⊕ X))⟩] ++ above, ctr } = some (.normal, s1) := a1
   rw [a1']
   simp only [hla, and_self, if_true, hsl]
   have a2' : AP LP (C5 LP (max n1 n2)) (max n1 n2) (Rk g params assign body jm (.inl t : τ ⊕ X)).body { s1 with low := base ++ [⟨e, some { gen := g, params, assign, body, ready := false, pending := none }⟩] ++ above } = some (j2, s2) := a2
   rw [a2']
   exact hr2
  cases st' with
  | inl t' =>
   obtain ⟨hb, rfl, e', hl2, hn2, hr2⟩ := he2
   simp only at hb
   subst hb
   refine ⟨base ++ [⟨e', some (Rk g params assign body jm (.inl t' : τ ⊕ X))⟩] ++ [], s2.ctr, ⟨e', rfl, hn2, hr2⟩, key _ ?_⟩
   have : Nq s2.low base.length g = some { gen := g, params, assign, body, ready := false, pending := none } := by
    rw [hl2]; exact Q8 base above e' { gen := g, params, assign, body, ready := false, pending := none }
   rw [hl2] at this
   simp only [endRound, hl2, this, OG, List.append_nil, Rk]
  | inr y =>
   obtain ⟨hb, hj, hne, e', hl2, hn2, hr2⟩ := he2
   simp only at hb
   subst hb
   refine ⟨base ++ [⟨e', some (Rk g params assign body jm (.inr y : τ ⊕ X))⟩] ++ [], s2.ctr, ⟨e', rfl, hn2, hr2⟩, key _ ?_⟩
   have : Nq s2.low base.length g = some { gen := g, params, assign, body, ready := false, pending := none } := by
    rw [hl2]; exact Q8 base above e' { gen := g, params, assign, body, ready := false, pending := none }
   rw [hj]
   rw [hl2] at this
   simp only [endRound, hl2, this, OG, List.append_nil]
   cases hjm : jm y with
   | normal => exact absurd hjm hne
   | exit i => simp only [Rk, hjm]
   | ret => simp only [Rk, hjm]
theorem Run.rng {LP : Aw} {ks : List gG} {J : zk → St → Prop} {τ X : Type} {B : List Nat} {base : List Fr} {f : Opd} {params : List Nat} {assign body : B6} {s : St} {n : Nat} {a b : List LV} {jm : X → zk} {l : τ ⊕ X → List (Nat × A6)} {t0 : τ} {st' : τ ⊕ X} {v : LV}
  (hl : s.low = base) (hf : NoB B s) (ht : target (s.val LP f) = some (n, a, b)) (hr : CB (l (.inl t0)) s)
  (hp : ∀ g low1, uW B base g params assign body jm l (.inl t0) low1 → qi LP n (a ++ [.yield base.length g] ++ b) (uW B base g params assign body jm l) low1 v st')
  (hJ : ∀ s', s'.low = base → NoB B s' → CB (l st') s' → ET LP ks (match st' with | .inl _ => .normal | .inr x => jm x) s' J) : Run LP ks (.rng f params assign body) s J := by
 have raw_eq : ∀ (s2 : St) (e : Env) (c : Nat), s2.env = e → ∀ l, CB l s2 → CB l ⟨e, base, c⟩ := by
  intro s2 e c he l
  induction l with
  | nil => intro _; trivial
  | cons p l ih => obtain ⟨t, x⟩ := p; subst he; exact fun h => ⟨h.1, ih h.2⟩
 have nob_eq : ∀ (s2 : St) (e : Env) (c : Nat), s2.env = e → NoB B s2 → NoB B ⟨e, base, c⟩ := by
  intro s2 e c he h u hu; subst he; exact h u hu
 have hc : uW B base s.ctr params assign body jm l (.inl t0) (base ++ [⟨s.env, some (Rk s.ctr params assign body jm (.inl t0 : τ ⊕ X))⟩] ++ []) :=
  ⟨s.env, rfl, nob_eq s _ _ rfl hf, raw_eq s _ _ rfl _ hr⟩
 obtain ⟨low', ctr', ⟨e', hl', hn', hr'⟩, m, hm⟩ := hp s.ctr _ hc (s.ctr + 1)
 simp only [List.append_nil] at hl' hm
 subst hl'
 have hlast : (base ++ [(⟨e', some (Rk s.ctr params assign body jm st')⟩ : Fr)]).getLast? = some ⟨e', some (Rk s.ctr params assign body jm st')⟩ := by simp
 refine ⟨(Rk s.ctr params assign body jm st').pending.getD .normal, ⟨e', base, ctr'⟩, ⟨m, ?_⟩, ?_⟩
 ·simp only [AP, ht, hl]
  have hm' : (C5 LP m).call n (a ++ [LV.yield base.length s.ctr] ++ b) (base ++ [{ env := s.env, loop := some { gen := s.ctr, params, assign, body, ready := true, pending := none } }]) (s.ctr + 1) = some (v, base ++ [⟨e', some (Rk s.ctr params assign body jm st')⟩], ctr') := hm
  rw [hm']
  simp only [hlast]
  have hcond : (base ++ [(⟨e', some (Rk s.ctr params assign body jm st')⟩ : Fr)]).length = base.length + 1 ∧ (Rk s.ctr params assign body jm st').gen = s.ctr ∧ ((Rk s.ctr params assign body jm st').ready = true ∨ (Rk s.ctr params assign body jm st').pending.isSome = true) := by
   refine ⟨by simp, by cases st' <;> rfl, ?_⟩
   cases st' with
   | inl _ => exact .inl rfl
   | inr _ => exact .inr rfl
  rw [if_pos hcond]
  simp
 ·have := hJ ⟨e', base, ctr'⟩ rfl (nob_eq ⟨e', base, 0⟩ e' ctr' rfl hn') (raw_eq ⟨e', base, 0⟩ e' ctr' rfl _ hr')
  cases st' with
  | inl _ => exact this
  | inr _ => exact this
theorem KN (j : Nat) (t : Nat) : ∀ e : Env, Env.get t (e.map fun p => (p.1, EZ j p.1 p.2)) = (Env.get t e).map (EZ j t)
 | [] => rfl
 | (u, x) :: e => by
  simp only [List.map_cons, Env.get]
  by_cases h : u = t
  ·subst h; simp
  ·simp only [if_neg h]; exact KN j t e
theorem Ik : ∀ (ps : List Nat) (xs : List LV) (e : Env) (t : Nat), ps.contains t = false → Env.get t (E0 ps xs e) = Env.get t e
 | [], _, _, _, _ => by simp [E0]
 | _ :: _, [], _, _, _ => by simp [E0]
 | p :: ps, x :: xs, e, t, h => by
  rw [List.contains_cons, Bool.or_eq_false_iff] at h
  simp only [E0]
  rw [Ik ps xs _ t h.2, Ij, if_neg]
  intro hp; subst hp; simp at h
theorem VI : ∀ (ps : List Nat) (xs : List LV) (e : Env) (low : List Fr) (c : Nat), ps.Nodup → CB ((ps.zip xs).map fun p => (p.1, A6.v p.2)) ⟨E0 ps xs e, low, c⟩
 | [], _, _, _, _, _ => trivial
 | _ :: _, [], _, _, _, _ => trivial
 | p :: ps, x :: xs, e, low, c, h => by
  rw [List.nodup_cons] at h
  refine ⟨?_, VI ps xs (e.set p (.v x)) low c h.2⟩
  show Env.get p (E0 ps xs (e.set p (.v x))) = some (.v x)
  rw [Ik ps xs _ p (by simpa using h.1), Ij, if_pos rfl]
theorem RZ : ∀ (ps : List Nat) (xs : List LV) (e : Env) (low : List Fr) (c t : Nat), (∀ u, St.free ⟨e, low, c⟩ u = true) → St.free ⟨E0 ps xs e, low, c⟩ t = true
 | [], _, _, _, _, t, h => h t
 | _ :: _, [], _, _, _, t, h => h t
 | p :: ps, x :: xs, e, low, c, t, h => by
  refine RZ ps xs (e.set p (.v x)) low c t ?_
  intro u
  have := JE ⟨e, low, c⟩ p u (.v x)
  show St.free (St.upd ⟨e, low, c⟩ p (.v x)) u = true
  rw [this]
  by_cases hu : p = u
  ·rw [if_pos hu]; rfl
  ·rw [if_neg hu]; exact h u
theorem mA (j : Nat) (e : Env) (low : List Fr) (c u : Nat) : St.free ⟨e.map fun p => (p.1, EZ j p.1 p.2), low, c⟩ u = true := by
 simp only [St.free, St.raw, KN]
 cases Env.get u e with
 | none => rfl
 | some x => cases x <;> rfl
theorem NoB.congr {B : List Nat} {s s' : St} (h : NoB B s) (hr : ∀ u, s'.raw u = s.raw u) : NoB B s' := by
 intro u hu
 have := h u hu
 simp only [St.free] at this ⊢
 rw [hr]; exact this
theorem XE {LP : Aw} {α τ X : Type} {B : List Nat} {base : List Fr} {g : Nat} {params : List Nat} {assign body : B6} {jm : X → zk} {l : τ ⊕ X → List (Nat × A6)} {A : α → List LV} {F : α → τ → Option (Bool × (τ ⊕ X))}
  (hnd : params.Nodup) (hA : ∀ x, (A x).length = params.length)
  (h : ∀ (x : α) (t : τ) (out : Bool × (τ ⊕ X)), F x t = some out → ∀ (e : Env) (above low0 low : List Fr) (lp : KV) (s : St),
   (∀ u y, params.contains u = false → Env.get u e = some y → s.raw u = some (EZ base.length u y)) → CB ((params.zip (A x)).map fun p => (p.1, A6.v p.2)) s → CB (l (.inl t)) ⟨e, base, 0⟩ → NZ B base above lp (l (.inl t)) low → s.low = low0 → NoB B s →
   Run LP [] assign s fun j s1 => j = .normal ∧ s1.low = low0 ∧ ∀ s2 : St, (∀ u, s2.raw u = s1.raw u) → s2.low = low → Run LP [] body s2 (pE B base above lp jm l out)) :
  J3 LP (uW B base g params assign body jm l) base.length g A (onL F) := by
 refine Xt hA ?_
 intro x t out hF e above ctr hn hr
 have hb : NZ B base above { gen := g, params, assign, body, ready := false, pending := none } (l (.inl t)) (base ++ [⟨e, some { gen := g, params, assign, body, ready := false, pending := none }⟩] ++ above) := ⟨e, rfl, hn, hr⟩
 obtain ⟨j, s1, h1, rfl, h2, h3⟩ := h x t out hF e above (base ++ [⟨e, some { gen := g, params, assign, body, ready := true, pending := none }⟩] ++ above) _ { gen := g, params, assign, body, ready := false, pending := none }
  ⟨E0 params (A x) (e.map fun p => (p.1, EZ base.length p.1 p.2)), base ++ [⟨e, some { gen := g, params, assign, body, ready := true, pending := none }⟩] ++ above, ctr⟩
  (fun u y hu hy => by
   show Env.get u (E0 params (A x) _) = _
   rw [Ik _ _ _ _ hu, KN, hy]; rfl)
  (VI _ _ _ _ _ hnd) hr hb rfl (fun u _ => RZ _ _ _ _ _ _ (fun u => mA _ _ _ _ _))
 exact ⟨.normal, s1, h1, rfl, h2, h3 _ (fun u => rfl) rfl⟩
theorem yG {α : Type} [Enc α] {s : St} {t g : Nat} {x : Sl α} (h : s.raw t = some (.box g [.d (Enc.enc x)])) : s.raw t = some (.box g [x.cool.lv]) := by rw [h, NN]
theorem rX {τ X : Type} {B : List Nat} {base : List Fr} {g : Nat} {params : List Nat} {assign body : B6} {jm : X → zk} {l : τ ⊕ X → List (Nat × A6)} (st : τ ⊕ X) (low : List Fr) (h : uW B base g params assign body jm l st low) : low.length = base.length + 1 := by
 have := NZ.len h
 simpa using this
theorem yW : type_of% (And.intro @dy <| And.intro @dq <| And.intro @sd <| And.intro @dJ <| And.intro @ju <| And.intro @iy <| And.intro @jJ <| And.intro @jT <| And.intro @jA <| And.intro @jR <| And.intro @nS <| And.intro @np <| And.intro @sk <| And.intro @sf <| And.intro @sJ <| And.intro @vK <| And.intro @si <| And.intro @vP <| And.intro @sF <| And.intro @jE <| And.intro @jr <| And.intro @sb <| And.intro @fW <| And.intro @cb <| And.intro @kB <| And.intro @kc <| And.intro @j9 <| And.intro @nz <| And.intro @pp <| And.intro @i4 <| And.intro @sT <| And.intro @pX <| And.intro @ja <| And.intro @dT <| And.intro @i6 <| And.intro @ey <| And.intro @A2 <| And.intro @ji <| And.intro @cG <| And.intro @kG <| And.intro @jb <| And.intro @JE <| And.intro @eF <| And.intro @Lc <| And.intro @J0 <| And.intro @bK <| And.intro @cr <| And.intro @ej <| And.intro @Jp <| And.intro @eB <| And.intro @Y9 <| And.intro @fQ <| And.intro @Y5 <| And.intro @pJ <| And.intro @sB <| And.intro @pY <| And.intro @kN <| And.intro @jz <| And.intro @eV <| And.intro @i9 <| And.intro @PQ <| And.intro @kH <| And.intro @je <| And.intro @eU <| And.intro @pN <| And.intro @nf <| And.intro @da <| And.intro @ov <| And.intro @aE <| And.intro @kY <| And.intro @M7 <| And.intro @Y0 <| And.intro @VJ <| And.intro @eP <| And.intro @Y1 <| And.intro @ZC <| And.intro @Zf <| And.intro @WH <| And.intro @ZW <| And.intro @Yt <| And.intro @U4 <| And.intro @Yx <| And.intro @dt <| And.intro @dX <| And.intro @Yy <| And.intro @ZU <| And.intro @Z4 <| And.intro @jB <| And.intro @kQ <| And.intro @Pg <| And.intro @Ta <| And.intro @ZD <| And.intro @Za <| And.intro @Vz <| And.intro @fX <| And.intro @fO <| And.intro @dW <| And.intro @jd <| And.intro @Ub <| And.intro @bR <| And.intro @ob <| And.intro @nc <| And.intro @ee <| And.intro @ZR <| And.intro @ou <| And.intro @kA <| And.intro @ev <| And.intro @Zc <| And.intro @jF <| And.intro @kP <| And.intro @kL <| And.intro @eA <| And.intro @V5 <| And.intro @pC <| And.intro @nL <| And.intro @nP <| And.intro @j7 <| And.intro @j5 <| And.intro @kW <| And.intro @aX <| And.intro @b9 <| And.intro @Zn <| And.intro @cK <| And.intro @av <| And.intro @ah <| And.intro @nj <| And.intro @nQ <| And.intro @od <| And.intro @ZS <| And.intro @Us <| And.intro @bC <| And.intro @bN <| And.intro @mh <| And.intro @jg <| And.intro @i7 <| And.intro @vH <| And.intro @iz <| And.intro @Yp <| And.intro @NI <| And.intro @ON <| And.intro @Y4 <| And.intro @kV <| And.intro @fu <| And.intro @VS <| And.intro @RS <| And.intro @jC <| And.intro @ZZ <| And.intro @fa <| And.intro @js <| And.intro @kK <| And.intro @oo <| And.intro @dN <| And.intro @jM <| And.intro @Ym <| And.intro @Tf <| And.intro @Wq <| And.intro @dm <| And.intro @ZG <| And.intro @Wx <| And.intro @ew <| And.intro @Wv <| And.intro @gP <| And.intro @VG <| And.intro @WY <| And.intro @Tq <| And.intro @i8 <| And.intro @Pj <| And.intro @fY <| And.intro @ZB <| And.intro @nF <| And.intro @kC <| And.intro @Vg <| And.intro @jl <| And.intro @oj <| And.intro @jH <| And.intro @pV <| And.intro @oM <| And.intro @dI <| And.intro @V9 <| And.intro @R2 <| And.intro @Ue <| And.intro @sn <| And.intro @SA <| And.intro @I8 <| And.intro @pi <| And.intro @jW <| And.intro @f7 <| And.intro @jo <| And.intro @fg <| And.intro @pD <| And.intro @oY <| And.intro @mt <| And.intro @get_keep <| And.intro @SE <| And.intro @ZT <| And.intro @wk @wJ) :=
 And.intro @dy <| And.intro @dq <| And.intro @sd <| And.intro @dJ <| And.intro @ju <| And.intro @iy <| And.intro @jJ <| And.intro @jT <| And.intro @jA <| And.intro @jR <| And.intro @nS <| And.intro @np <| And.intro @sk <| And.intro @sf <| And.intro @sJ <| And.intro @vK <| And.intro @si <| And.intro @vP <| And.intro @sF <| And.intro @jE <| And.intro @jr <| And.intro @sb <| And.intro @fW <| And.intro @cb <| And.intro @kB <| And.intro @kc <| And.intro @j9 <| And.intro @nz <| And.intro @pp <| And.intro @i4 <| And.intro @sT <| And.intro @pX <| And.intro @ja <| And.intro @dT <| And.intro @i6 <| And.intro @ey <| And.intro @A2 <| And.intro @ji <| And.intro @cG <| And.intro @kG <| And.intro @jb <| And.intro @JE <| And.intro @eF <| And.intro @Lc <| And.intro @J0 <| And.intro @bK <| And.intro @cr <| And.intro @ej <| And.intro @Jp <| And.intro @eB <| And.intro @Y9 <| And.intro @fQ <| And.intro @Y5 <| And.intro @pJ <| And.intro @sB <| And.intro @pY <| And.intro @kN <| And.intro @jz <| And.intro @eV <| And.intro @i9 <| And.intro @PQ <| And.intro @kH <| And.intro @je <| And.intro @eU <| And.intro @pN <| And.intro @nf <| And.intro @da <| And.intro @ov <| And.intro @aE <| And.intro @kY <| And.intro @M7 <| And.intro @Y0 <| And.intro @VJ <| And.intro @eP <| And.intro @Y1 <| And.intro @ZC <| And.intro @Zf <| And.intro @WH <| And.intro @ZW <| And.intro @Yt <| And.intro @U4 <| And.intro @Yx <| And.intro @dt <| And.intro @dX <| And.intro @Yy <| And.intro @ZU <| And.intro @Z4 <| And.intro @jB <| And.intro @kQ <| And.intro @Pg <| And.intro @Ta <| And.intro @ZD <| And.intro @Za <| And.intro @Vz <| And.intro @fX <| And.intro @fO <| And.intro @dW <| And.intro @jd <| And.intro @Ub <| And.intro @bR <| And.intro @ob <| And.intro @nc <| And.intro @ee <| And.intro @ZR <| And.intro @ou <| And.intro @kA <| And.intro @ev <| And.intro @Zc <| And.intro @jF <| And.intro @kP <| And.intro @kL <| And.intro @eA <| And.intro @V5 <| And.intro @pC <| And.intro @nL <| And.intro @nP <| And.intro @j7 <| And.intro @j5 <| And.intro @kW <| And.intro @aX <| And.intro @b9 <| And.intro @Zn <| And.intro @cK <| And.intro @av <| And.intro @ah <| And.intro @nj <| And.intro @nQ <| And.intro @od <| And.intro @ZS <| And.intro @Us <| And.intro @bC <| And.intro @bN <| And.intro @mh <| And.intro @jg <| And.intro @i7 <| And.intro @vH <| And.intro @iz <| And.intro @Yp <| And.intro @NI <| And.intro @ON <| And.intro @Y4 <| And.intro @kV <| And.intro @fu <| And.intro @VS <| And.intro @RS <| And.intro @jC <| And.intro @ZZ <| And.intro @fa <| And.intro @js <| And.intro @kK <| And.intro @oo <| And.intro @dN <| And.intro @jM <| And.intro @Ym <| And.intro @Tf <| And.intro @Wq <| And.intro @dm <| And.intro @ZG <| And.intro @Wx <| And.intro @ew <| And.intro @Wv <| And.intro @gP <| And.intro @VG <| And.intro @WY <| And.intro @Tq <| And.intro @i8 <| And.intro @Pj <| And.intro @fY <| And.intro @ZB <| And.intro @nF <| And.intro @kC <| And.intro @Vg <| And.intro @jl <| And.intro @oj <| And.intro @jH <| And.intro @pV <| And.intro @oM <| And.intro @dI <| And.intro @V9 <| And.intro @R2 <| And.intro @Ue <| And.intro @sn <| And.intro @SA <| And.intro @I8 <| And.intro @pi <| And.intro @jW <| And.intro @f7 <| And.intro @jo <| And.intro @fg <| And.intro @pD <| And.intro @oY <| And.intro @mt <| And.intro @get_keep <| And.intro @SE <| And.intro @ZT <| And.intro @wk @wJ
end Go.Lf
