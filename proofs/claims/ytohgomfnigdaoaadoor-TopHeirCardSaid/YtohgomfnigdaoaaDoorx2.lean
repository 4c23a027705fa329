/- A part of the proof. -/
import Derived.Test.YtohgomfnigdaoaaDoorx1
set_option linter.all false
namespace Go.Lf
open Go
def W (x : Int) : Int := IntKind.i64.wrap x
inductive Sl (α : Type) where
 | nil
 | cold (xs : List α)
 | hot (xs : List α)
 | full (xs : List α)
 deriving Inhabited
namespace Sl
variable {α : Type}
def l : Sl α → List α
 | nil => []
 | cold xs | hot xs | full xs => xs
def len (x : Sl α) : Int := x.l.length
def ix (x : Sl α) (i : Int) : Option α := if 0 ≤ i then x.l[i.toNat]? else none
def cool : Sl α → Sl α
 | nil => nil
 | cold xs | hot xs | full xs => cold xs
def spent : Sl α → Sl α
 | hot xs => cold xs
 | x => x
def app (q : Nat) (x : Sl α) (ys : List α) : Option (Sl α) := match x with
 | nil => if ys = [] then some nil else if Js ys.length q then some (hot ys) else none
 | cold _ => none
 | hot xs => if Js (xs.length + ys.length) q then some (hot (xs ++ ys)) else none
 | full xs => if ys = [] then some (full xs) else if Js (xs.length + ys.length) q then some (hot (xs ++ ys)) else none
def sub (x : Sl α) (lo hi : Option Int) : Option (Sl α) := match x with
 | nil => if lo.getD 0 = 0 ∧ hi.getD 0 = 0 then some nil else none
 | cold xs | hot xs | full xs => if 0 ≤ lo.getD 0 ∧ lo.getD 0 ≤ hi.getD xs.length ∧ hi.getD xs.length ≤ xs.length then some (cold ((xs.take (hi.getD xs.length).toNat).drop (lo.getD 0).toNat)) else none
def sub3 (x : Sl α) (lo : Option Int) (hi : Int) : Option (Sl α) := match x with
 | nil => if lo.getD 0 = 0 ∧ hi = 0 then some nil else none
 | cold xs | hot xs | full xs => if 0 ≤ lo.getD 0 ∧ lo.getD 0 ≤ hi ∧ hi ≤ xs.length then some (full ((xs.take hi.toNat).drop (lo.getD 0).toNat)) else none
end Sl
class yA (α : Type) where
 n : Nat
 cells : α → List DV
 enc : α → DV
 law : ∀ x, (enc x).cells = cells x
instance : yA Int := ⟨1, fun x => [.int x], .int, fun _ => rfl⟩
instance : yA Bool := ⟨1, fun x => [.bool x], .bool, fun _ => rfl⟩
instance : yA DV := ⟨1, fun x => x.cells, fun x => x, fun _ => rfl⟩
instance {α β : Type} [yA α] [yA β] : yA (α × β) := ⟨1, fun x => [.tup [yA.enc x.1, yA.enc x.2]], fun x => .tup [yA.enc x.1, yA.enc x.2], fun _ => rfl⟩
section
variable {α : Type} [yA α]
def Sl.dv : Sl α → DV
 | .nil => .nils
 | .cold xs | .hot xs | .full xs => .slice (yA.n α) (xs.map yA.enc)
def Sl.lv : Sl α → LV
 | .nil => .d .nils
 | .cold xs => .d (.slice (yA.n α) (xs.map yA.enc))
 | .hot xs => .hot (yA.n α) (xs.map yA.enc)
 | .full xs => .full (yA.n α) (xs.map yA.enc)
instance : yA (Sl α) := ⟨1, fun x => [x.dv], Sl.dv, fun x => by cases x <;> rfl⟩
end
def St.upd (s : St) (t : Nat) (x : BL) : St := { s with env := s.env.set t x }
def BL.isV : BL → Bool
 | .v _ => true
 | _ => false
def L9 (k t : Nat) : BL → LV
 | .v x => x.copy
 | .box g _ => .ptr k t g 0
 | .mapo g _ _ => .mref k t g
def St.raw (s : St) (t : Nat) : Option BL := s.env.get t
def St.free (s : St) (t : Nat) : Bool := match s.raw t with
 | some x => x.isV
 | none => true
theorem JL (e : xl) (t u : Nat) (x : BL) : (e.set t x).get u = if t = u then some x else e.get u := by
 induction e with
 | nil => simp [xl.set, xl.get]
 | cons p e ih =>
  obtain ⟨v, y⟩ := p
  simp only [xl.set]
  by_cases h : v = t
  ·subst h
   simp only [if_true, xl.get]
   by_cases h2 : v = u
   ·simp [h2]
   ·simp [h2]
  ·simp only [h, if_false, xl.get]
   by_cases h2 : v = u
   ·subst h2
    simp [Ne.symm h]
   ·simp [h2, ih]
theorem Aj (s : St) (t u : Nat) (x : BL) : (s.upd t x).raw u = if t = u then some x else s.raw u := JL ..
theorem wa (low : List Fr) (ctr t : Nat) : St.raw ⟨[], low, ctr⟩ t = none := rfl
theorem j4 (u : Nat) (x : BL) (e : xl) (low : List Fr) (ctr t : Nat) : St.raw ⟨(u, x) :: e, low, ctr⟩ t = if u = t then some x else St.raw ⟨e, low, ctr⟩ t := rfl
theorem bR (s : St) (t : Nat) (x : BL) : (s.upd t x).low = s.low := rfl
theorem wM (s : St) (t : Nat) (x : BL) : (s.upd t x).ctr = s.ctr := rfl
theorem J9 (s : St) (t u : Nat) (x : BL) : (s.upd t x).free u = if t = u then x.isV else s.free u := by
 simp only [St.free, Aj]
 by_cases h : t = u <;> simp [h]
theorem vr (low : List Fr) (ctr t : Nat) : St.free ⟨[], low, ctr⟩ t = true := rfl
theorem pI (u : Nat) (x : BL) (e : xl) (low : List Fr) (ctr t : Nat) : St.free ⟨(u, x) :: e, low, ctr⟩ t = if u = t then x.isV else St.free ⟨e, low, ctr⟩ t := by
 simp only [St.free, j4]
 by_cases h : u = t <;> simp [h]
theorem H8 (s : St) (t : Nat) : s.slot t = match s.raw t with
 | some x => L9 s.low.length t x
 | none => .d .bot := by
 simp only [St.slot, St.raw]
 cases s.env.get t with
 | none => rfl
 | some x => cases x <;> rfl
theorem wC (s : St) (t u : Nat) (x : BL) : (s.upd t x).slot u = if t = u then L9 s.low.length t x else s.slot u := by
 rw [H8, H8, Aj, bR]
 by_cases h : t = u <;> simp [h]
theorem vC (u : Nat) (x : BL) (e : xl) (low : List Fr) (ctr t : Nat) : St.slot ⟨(u, x) :: e, low, ctr⟩ t = if u = t then L9 low.length u x else St.slot ⟨e, low, ctr⟩ t := by
 rw [H8, H8, j4]
 by_cases h : u = t <;> simp [h]
theorem QY (k t : Nat) (v : DV) : L9 k t (.v (.d v)) = .d v := rfl
theorem ul (k t : Nat) (v : Int) : L9 k t (.v (.d (.int v))) = .d (.int v) := rfl
theorem gp (k t j u g o : Nat) : L9 k t (.v (.ptr j u g o)) = .ptr j u g o := rfl
theorem Za (k t j u g : Nat) : L9 k t (.v (.mref j u g)) = .mref j u g := rfl
theorem fB (k t g : Nat) (cs : List LV) : L9 k t (.box g cs) = .ptr k t g 0 := rfl
theorem de (k t g n : Nat) (es : List (List Int × LV)) : L9 k t (.mapo g n es) = .mref k t g := rfl
theorem wG (k t f : Nat) (a b : List LV) : L9 k t (.v (.fn f a b)) = .fn f a b := rfl
theorem vc {α : Type} [yA α] (k t : Nat) (x : Sl α) : (∀ xs, x ≠ .full xs) → L9 k t (.v x.lv) = .d (yA.enc x) := by
 cases x <;> simp [L9, Sl.lv, LV.copy, yA.enc, Sl.dv]
def G0 (LP : A2) (C : AP) (g : Nat) (r : List AH) (s : St) (t : Option Nat) : Option LV → Option St
 | none => none
 | some v => match s.put t v with
  | some s' => evalOps LP C g r s'
  | none => none
def nc (sz : Nat) (x i : LV) : Option LV := match OV x, GQ i with
 | some (z, xs), some i => match xs[i]? with
  | some e => if z = sz then some (.d (.fptr e.cells 0)) else none
  | none => none
 | _, _ => none
def oL (c a b : LV) : Option LV := match F4 c with
 | some true => some a
 | some false => some b
 | none => none
def kS (op : BinOp) (x y : LV) : Option LV := match Q8 x, Q8 y with
 | some a, some b => (CC (binOp op 0 (.int .i64 a) (.int .i64 b))).map .d
 | _, _ => none
def vY (neg : Bool) (x y : LV) : Option LV := match F4 x, F4 y with
 | some a, some b => some (.d (.bool (if neg then a != b else a == b)))
 | _, _ => none
def tN (neg : Bool) (n : Nat) (x y : LV) : Option LV := match x.aggKey, y.aggKey with
 | some a, some b => if a.length = n ∧ b.length = n then some (.d (.bool (if neg then decide (a ≠ b) else decide (a = b)))) else none
 | _, _ => none
def yy (op : UnOp) (x : LV) : Option LV := match x with
 | .d (.int a) => (CC (Op.unary op (.int .i64 a))).map .d
 | .d (.bool a) => (CC (Op.unary op (.bool a))).map .d
 | _ => none
def tU (x : LV) : Option LV := (iP x).map fun n => .d (.int n)
def yq (isMax : Bool) (xs : List LV) : Option LV := (minmax isMax xs).map fun n => .d (.int n)
def qC (i : Nat) : Option BL → Option LV
 | some (.v (.d (.tup cs))) => (cs[i]?).map .d
 | some (.v (.tup cs)) => (cs[i]?).map LV.copy
 | _ => none
def HQ : Option LV → Option (Option Nat)
 | none => some none
 | some x => (GQ x).map some
def It (sz : Nat) (x : LV) (lo hi mx : Option LV) : Option LV := match HQ lo, HQ hi, HQ mx with
 | some lo, some hi, some mx => P2 sz x lo hi mx
 | _, _, _ => none
def EZ (zs : List DV) (ps : List (Nat × Nat × LV)) : Option LV := (Cm ps (zs.map .d)).map fun cs => LV.norm (.agg cs)
def Ve (k : Option Nat) (zs : List DV) (len : Nat) (ps : List (Nat × Nat × LV)) : Option LV :=
 match Cm ps ((List.replicate len zs).flatten.map .d) with
 | some cs => if cs.all LV.cellOk then match AX cs with
  | some ds => ((List.range len).mapM fun i => Av k (i * k.getD 1) ds).map fun xs => .hot (k.getD 1) xs
  | none => none else none
 | none => none
def TU (sz n : Nat) (p i : LV) : Option LV := match GQ i with
 | some i => if i < n then Ja (i * sz) p else none
 | none => none
def Ur (k : Option Nat) (sz n : Nat) (x i : LV) : Option LV := match GQ i with
 | some i => if i < n then K6 k (i * sz) x else none
 | none => none
def i8 (C : AP) (f : LV) (args : List LV) : Option LV := match target f, AX args with
 | some (f, a, b), some ds => match AX a, AX b with
  | some a, some b => match C.call f ((a ++ ds ++ b).map .d) [] 0 with
   | some (v, _, _) => v.toD.map .d
   | none => none
  | _, _ => none
 | _, _ => none
def aJ (n : Nat) (x : LV) : Option (List LV) := match x.known with
 | some cs => if cs.length = n ∧ cs.all LV.cellOk then some cs else none
 | none => none
def HN (k : Option Nat) (off g : Nat) : Option BL → Option LV
 | some (.box g' cs) => if g' = g then part k off cs else none
 | _ => none
def RJ (s : St) (k : Option Nat) (root : Option (Option Nat)) (p : LV) : Option LV :=
 if Ao s.low.length root (some p) then match p with
  | .d (.fptr cs off) => (Av k off cs).map .d
  | .fptr cs off => part k off cs
  | .ptr j t g off => match s.cells j t g with
   | some cs => part k off cs
   | none => none
  | _ => none
 else none
def RR (n : Nat) (ok : Bool) (z : DV) (m k : LV) : Option LV := match k.key n with
 | none => none
 | some key =>
  let out (r : Option DV) : Option LV := some (if ok then LV.norm (.tup [.d (r.getD z), .d (.bool r.isSome)]) else .d (r.getD z))
  match m with
  | .d (.fmap n' es) => if n' = n then out ((AM key es 0).map (·.2)) else none
  | .d .nilmap => out none
  | _ => none
def Gt (n off g : Nat) (xs : Option (List LV)) : Option BL → Option BL
 | some (.box g' cs) => match xs with
  | some xs => if g' = g then (if xs.length = n ∧ off + n ≤ cs.length ∧ xs.all LV.cellOk then some (.box g (setCells cs off xs)) else none) else none
  | none => none
 | _ => none
section
variable (LP : A2) (C : AP)
def iI (g : Nat) (r : List AH) : Option St → Option St
 | some s => evalOps LP C g r s
 | none => none
def dS (g : Nat) (r : List AH) (s : St) (t : Option Nat) (x : Nat) : Option BL → Option St
 | some (.v (.hot z xs)) => G0 LP C g r (s.upd x (.v (.d (.slice z xs)))) t (some (.hot z xs))
 | _ => G0 LP C g r s t (some (s.slot x))
def fb (g : Nat) (r : List AH) (s : St) (t : Option Nat) (x : Nat) (sz q : Nat) (y : LV) : Option BL → Option St
 | some (.v (.hot z xs)) => G0 LP C g r (s.upd x (.v (.d (.slice z xs)))) t (BD sz q (.hot z xs) y)
 | _ => G0 LP C g r s t (BD sz q (s.slot x) y)
def Ir (g : Nat) (r : List AH) (s : St) (n : Nat) (p : LV) (x : yV) : Option St := iI LP C g r (match p with
 | .ptr j t g' off =>
  let r := s.take LP x
  match r.2.cells j t g', r.1.known with
  | some cs, some xs => if xs.length = n ∧ off + n ≤ cs.length ∧ xs.all LV.cellOk then some (r.2.setAt j t (.box g' (setCells cs off xs))) else none
  | _, _ => none
 | _ => none)
def T0 (g : Nat) (o : AH) (r : List AH) (s : St) (w : Bool) : LV → Option St
 | .d (.bool b) => if b = w then evalOps LP C g (o :: r) s else G0 LP C (g + 1) r s o.dst (some (.d .undef))
 | .d .undef => G0 LP C (g + 1) r s o.dst (some (.d .undef))
 | _ => none
variable {LP C} (g : Nat) (r : List AH) (s : St) (t : Option Nat) (ro : Option (Option Nat))
theorem fV (u : Nat) (v : LV) (h : s.free u = true) : G0 LP C g r s (some u) (some v) = evalOps LP C g r (s.upd u (.v v)) := by
 simp only [G0, St.put, St.free, St.raw, St.upd] at *
 cases hx : s.env.get u with
 | none => rfl
 | some x => rw [hx] at h; cases x <;> simp_all [BL.isV]
theorem dZ (v : LV) : G0 LP C g r s none (some v) = evalOps LP C g r s := rfl
theorem rr : evalOps LP C g [] s = some s := rfl
theorem ev : iI LP C g r (some s) = evalOps LP C g r s := rfl
theorem BJ {o : yE} {v : Option LV} (hm : o.addr = none) (h : evalOp LP C g t o s = match v with | some v => s.put t v | none => none) :
  evalOps LP C g (⟨t, o, none, ro⟩ :: r) s = G0 LP C (g + 1) r s t v := by
 have hr : Ao s.low.length ro none = true := by cases ro <;> rfl
 simp only [evalOps, Ai, hm, Option.map_none, hr, if_true, h]
 cases v with
 | none => rfl
 | some v => rfl
theorem kD (o : yE) (b : Nat) (w : Bool) : evalOps LP C g (⟨t, o, some (b, w), ro⟩ :: r) s = T0 LP C g ⟨t, o, none, ro⟩ r s w (s.slot b) := by
 simp only [evalOps, Ai, T0]
 split <;> rename_i h <;> split at h <;> simp_all [G0]
 all_goals (try split at h <;> simp_all)
 all_goals (try (split <;> simp_all))
theorem j3 (o : AH) : T0 LP C g o r s true (.d (.bool true)) = evalOps LP C g (o :: r) s := rfl
theorem jy (o : AH) : T0 LP C g o r s false (.d (.bool false)) = evalOps LP C g (o :: r) s := rfl
theorem jk (o : AH) : T0 LP C g o r s true (.d (.bool false)) = G0 LP C (g + 1) r s o.dst (some (.d .undef)) := rfl
theorem kP (o : AH) : T0 LP C g o r s false (.d (.bool true)) = G0 LP C (g + 1) r s o.dst (some (.d .undef)) := rfl
theorem lF (o : AH) (w : Bool) : T0 LP C g o r s w (.d .undef) = G0 LP C (g + 1) r s o.dst (some (.d .undef)) := by cases w <;> rfl
theorem pB (x : yV) : evalOps LP C g (⟨t, .move x false, none, ro⟩ :: r) s = G0 LP C (g + 1) r s t (some (s.val LP x)) := BJ (v := some (s.val LP x)) _ _ _ _ _ rfl rfl
theorem og (c a b : yV) : evalOps LP C g (⟨t, .pick c a b, none, ro⟩ :: r) s = G0 LP C (g + 1) r s t (oL (s.val LP c) (s.val LP a) (s.val LP b)) :=
 BJ (v := oL (s.val LP c) (s.val LP a) (s.val LP b)) _ _ _ _ _ rfl (by simp only [evalOp, oL]; cases F4 (s.val LP c) with | none => rfl | some b => cases b <;> rfl)
theorem sU (op : BinOp) (x y : yV) : evalOps LP C g (⟨t, .bin op x y, none, ro⟩ :: r) s = G0 LP C (g + 1) r s t (kS op (s.val LP x) (s.val LP y)) :=
 BJ (v := kS op (s.val LP x) (s.val LP y)) _ _ _ _ _ rfl (by
  simp only [evalOp, kS]; cases Q8 (s.val LP x) with
  | none => rfl
  | some a => cases Q8 (s.val LP y) with
   | none => rfl
   | some b => simp only; cases CC (binOp op 0 (.int .i64 a) (.int .i64 b)) <;> rfl)
theorem sb (neg : Bool) (x y : yV) : evalOps LP C g (⟨t, .eqb neg x y, none, ro⟩ :: r) s = G0 LP C (g + 1) r s t (vY neg (s.val LP x) (s.val LP y)) :=
 BJ (v := vY neg (s.val LP x) (s.val LP y)) _ _ _ _ _ rfl (by
  simp only [evalOp, vY]; cases F4 (s.val LP x) with
  | none => rfl
  | some a => cases F4 (s.val LP y) <;> rfl)
theorem rn (neg : Bool) (n : Nat) (x y : yV) : evalOps LP C g (⟨t, .eqa neg n x y, none, ro⟩ :: r) s = G0 LP C (g + 1) r s t (tN neg n (s.val LP x) (s.val LP y)) :=
 BJ (v := tN neg n (s.val LP x) (s.val LP y)) _ _ _ _ _ rfl (by
  simp only [evalOp, tN]; cases (s.val LP x).aggKey with
  | none => rfl
  | some a => cases (s.val LP y).aggKey with
   | none => rfl
   | some b => simp only; split <;> rfl)
theorem vM (op : UnOp) (x : yV) : evalOps LP C g (⟨t, .un op x, none, ro⟩ :: r) s = G0 LP C (g + 1) r s t (yy op (s.val LP x)) :=
 BJ (v := yy op (s.val LP x)) _ _ _ _ _ rfl (by
  simp only [evalOp, yy]
  cases s.val LP x with
  | d v => cases v with
   | int a => simp only; cases CC (Op.unary op (.int .i64 a)) <;> rfl
   | bool a => simp only; cases CC (Op.unary op (.bool a)) <;> rfl
   | _ => rfl
  | _ => rfl)
theorem sJ (x : yV) : evalOps LP C g (⟨t, .len x, none, ro⟩ :: r) s = G0 LP C (g + 1) r s t (tU (s.val LP x)) :=
 BJ (v := tU (s.val LP x)) _ _ _ _ _ rfl (by simp only [evalOp, tU]; cases iP (s.val LP x) <;> rfl)
theorem vW (b : Bool) (xs : List yV) : evalOps LP C g (⟨t, .minmax b xs, none, ro⟩ :: r) s = G0 LP C (g + 1) r s t (yq b (xs.map (s.val LP))) :=
 BJ (v := yq b (xs.map (s.val LP))) _ _ _ _ _ rfl (by simp only [evalOp, yq]; cases minmax b (xs.map (s.val LP)) <;> rfl)
theorem rq (i x : Nat) : evalOps LP C g (⟨t, .extract i (.tmp x) false, none, ro⟩ :: r) s = G0 LP C (g + 1) r s t (qC i (s.raw x)) :=
 BJ (v := qC i (s.raw x)) _ _ _ _ _ rfl (by
  simp only [evalOp, St.raw]
  cases s.env.get x with
  | none => rfl
  | some y => cases y with
   | v y => cases y with
    | d y => cases y with
     | tup cs => simp only [qC]; cases cs[i]? <;> rfl
     | _ => rfl
    | tup cs => simp only [qC]; cases cs[i]? <;> rfl
    | _ => rfl
   | _ => rfl)
theorem kF (sz : Nat) (x : yV) (lo hi mx : Option yV) : evalOps LP C g (⟨t, .slice sz x lo hi mx, none, ro⟩ :: r) s = G0 LP C (g + 1) r s t (It sz (s.val LP x) (lo.map (s.val LP)) (hi.map (s.val LP)) (mx.map (s.val LP))) :=
 BJ (v := It sz (s.val LP x) (lo.map (s.val LP)) (hi.map (s.val LP)) (mx.map (s.val LP))) _ _ _ _ _ rfl (by
  have e : ∀ o : Option yV, optNat (s.val LP) o = HQ (o.map (s.val LP)) := fun o => by cases o <;> rfl
  simp only [evalOp, It, e]
  cases HQ (lo.map (s.val LP)) with
  | none => rfl
  | some a => cases HQ (hi.map (s.val LP)) with
   | none => rfl
   | some b => cases HQ (mx.map (s.val LP)) with
    | none => rfl
    | some c => simp only; cases P2 sz (s.val LP x) a b c <;> rfl)
theorem lV (zs : List DV) (ps : List (Nat × Nat × yV)) : evalOps LP C g (⟨t, .build zs ps, none, ro⟩ :: r) s = G0 LP C (g + 1) r s t (EZ zs (ps.map fun p => (p.1, p.2.1, s.val LP p.2.2))) :=
 BJ (v := EZ zs (ps.map fun p => (p.1, p.2.1, s.val LP p.2.2))) _ _ _ _ _ rfl (by
  simp only [evalOp, EZ]; cases Cm (ps.map fun p => (p.1, p.2.1, s.val LP p.2.2)) (zs.map .d) <;> rfl)
theorem sH (k : Option Nat) (zs : List DV) (len : Nat) (ps : List (Nat × Nat × yV)) : evalOps LP C g (⟨t, .lit k zs len ps, none, ro⟩ :: r) s = G0 LP C (g + 1) r s t (Ve k zs len (ps.map fun p => (p.1, p.2.1, s.val LP p.2.2))) :=
 BJ (v := Ve k zs len (ps.map fun p => (p.1, p.2.1, s.val LP p.2.2))) _ _ _ _ _ rfl (by
  simp only [evalOp, Ve]
  cases Cm (ps.map fun p => (p.1, p.2.1, s.val LP p.2.2)) ((List.replicate len zs).flatten.map .d) with
  | none => rfl
  | some cs =>
   simp only
   split
   ·cases AX cs with
    | none => rfl
    | some ds => simp only; cases (List.range len).mapM fun i => Av k (i * k.getD 1) ds <;> rfl
   ·rfl)
theorem gr (sz : Nat) (x i : yV) : evalOps LP C g (⟨t, .iaddrS sz x i, none, ro⟩ :: r) s = G0 LP C (g + 1) r s t (nc sz (s.val LP x) (s.val LP i)) :=
 BJ (v := nc sz (s.val LP x) (s.val LP i)) _ _ _ _ _ rfl (by
  simp only [evalOp, nc]
  cases OV (s.val LP x) with
  | none => rfl
  | some p => cases GQ (s.val LP i) with
   | none => rfl
   | some k =>
    simp only
    cases p.2[k]? with
    | none => rfl
    | some e => simp only; split <;> rfl)
theorem eR (sz n : Nat) (p i : yV) : evalOps LP C g (⟨t, .iaddrA sz n p i, none, ro⟩ :: r) s = G0 LP C (g + 1) r s t (TU sz n (s.val LP p) (s.val LP i)) :=
 BJ (v := TU sz n (s.val LP p) (s.val LP i)) _ _ _ _ _ rfl (by
  simp only [evalOp, TU]
  cases GQ (s.val LP i) with
  | none => rfl
  | some k => simp only; split <;> rfl)
theorem ku (k : Option Nat) (sz n : Nat) (x i : yV) : evalOps LP C g (⟨t, .index k sz n x i, none, ro⟩ :: r) s = G0 LP C (g + 1) r s t (Ur k sz n (s.val LP x) (s.val LP i)) :=
 BJ (v := Ur k sz n (s.val LP x) (s.val LP i)) _ _ _ _ _ rfl (by
  simp only [evalOp, Ur]
  cases GQ (s.val LP i) with
  | none => rfl
  | some m => simp only; split <;> rfl)
theorem lL (off : Nat) (p : yV) : evalOps LP C g (⟨t, .faddr off p, none, ro⟩ :: r) s = G0 LP C (g + 1) r s t (Ja off (s.val LP p)) :=
 BJ (v := Ja off (s.val LP p)) _ _ _ _ _ rfl (by simp only [evalOp]; cases Ja off (s.val LP p) <;> rfl)
theorem kA (k : Option Nat) (off : Nat) (x : yV) : evalOps LP C g (⟨t, .field k off x, none, ro⟩ :: r) s = G0 LP C (g + 1) r s t (K6 k off (s.val LP x)) :=
 BJ (v := K6 k off (s.val LP x)) _ _ _ _ _ rfl (by simp only [evalOp]; cases K6 k off (s.val LP x) <;> rfl)
theorem ob (f : Nat) (a b : List yV) : evalOps LP C g (⟨t, .mkfn f a b, none, ro⟩ :: r) s = G0 LP C (g + 1) r s t (some (LV.norm (.fn f (a.map (s.val LP)) (b.map (s.val LP))))) :=
 BJ (v := some (LV.norm (.fn f (a.map (s.val LP)) (b.map (s.val LP))))) _ _ _ _ _ rfl rfl
theorem pJ (f : yV) (args : List yV) : evalOps LP C g (⟨t, .call f args none, none, ro⟩ :: r) s = G0 LP C (g + 1) r s t (i8 C (s.val LP f) (args.map (s.val LP))) :=
 BJ (v := i8 C (s.val LP f) (args.map (s.val LP))) _ _ _ _ _ rfl (by
  simp only [evalOp, i8]
  split
  ·rename_i f' a b ds h1 h2
   simp only [h1, h2]
   cases AX a with
   | none => rfl
   | some a => cases AX b with
    | none => rfl
    | some b =>
     simp only
     cases C.call f' (List.map LV.d (a ++ ds ++ b)) [] 0 with
     | none => rfl
     | some p => obtain ⟨v, x, y⟩ := p; simp only; cases v.toD <;> rfl
  ·rename_i h
   cases h1 : target (s.val LP f) with
   | none => rfl
   | some p => cases h2 : AX (args.map (s.val LP)) with
    | none => rfl
    | some ds => exact absurd h2 (h _ _ _ _ h1))
theorem kL (u : Nat) (zs : List DV) : evalOps LP C g (⟨some u, .alloc zs, none, ro⟩ :: r) s = evalOps LP C (g + 1) r (s.upd u (.box g (zs.map .d))) := by
 have hr : Ao s.low.length ro none = true := by cases ro <;> rfl
 simp only [evalOps, Ai, yE.addr, Option.map_none, hr, if_true, evalOp, St.upd]
theorem sS (u n : Nat) (x : yV) : evalOps LP C g (⟨some u, .box n x, none, ro⟩ :: r) s = iI LP C (g + 1) r ((aJ n (s.val LP x)).map fun cs => s.upd u (.box g cs)) := by
 have hr : Ao s.low.length ro none = true := by cases ro <;> rfl
 simp only [evalOps, Ai, yE.addr, Option.map_none, hr, if_true, evalOp, aJ]
 cases (s.val LP x).known with
 | none => rfl
 | some cs =>
  simp only
  by_cases h : cs.length = n ∧ cs.all LV.cellOk = true
  ·simp only [if_pos h]; rfl
  ·simp only [if_neg h]; rfl
theorem kw (u n : Nat) : evalOps LP C g (⟨some u, .mkmap n, none, ro⟩ :: r) s = evalOps LP C (g + 1) r (s.upd u (.mapo g n [])) := by
 have hr : Ao s.low.length ro none = true := by cases ro <;> rfl
 simp only [evalOps, Ai, yE.addr, Option.map_none, hr, if_true, evalOp, St.upd]
theorem oQ (k : Option Nat) (p : yV) : evalOps LP C g (⟨t, .load k p false, none, ro⟩ :: r) s = G0 LP C (g + 1) r s t (RJ s k ro (s.val LP p)) := by
 have e : Ai LP C g ⟨t, .load k p false, none, ro⟩ s = if Ao s.low.length ro (some (s.val LP p)) = true then evalOp LP C g t (.load k p false) s else none := rfl
 simp only [evalOps, e, RJ]
 by_cases h : Ao s.low.length ro (some (s.val LP p)) = true
 case neg => rw [if_neg h, if_neg h]; rfl
 case pos =>
  rw [if_pos h, if_pos h]
  simp only [evalOp]
  cases s.val LP p with
  | d v => cases v with
   | fptr cs off => simp only; cases Av k off cs <;> rfl
   | _ => rfl
  | fptr cs off => simp only; cases part k off cs <;> rfl
  | ptr j t' g' off => simp only; cases s.cells j t' g' with
   | none => rfl
   | some cs => simp only; cases part k off cs <;> rfl
  | _ => rfl
theorem lU (n : Nat) (p x : yV) (h : Ao s.low.length ro (some (s.val LP p)) = true) : evalOps LP C g (⟨t, .store n p x, none, ro⟩ :: r) s = Ir LP C (g + 1) r s n (s.val LP p) x := by
 simp only [evalOps, Ai, yE.addr, Option.map_some, h, if_true, evalOp, Ir]
 cases s.val LP p with
 | ptr j t' g' off =>
  simp only
  cases (s.take LP x).2.cells j t' g' with
  | none => rfl
  | some cs => cases (s.take LP x).1.known with
   | none => rfl
   | some xs =>
    simp only
    by_cases hc : xs.length = n ∧ off + n ≤ cs.length ∧ xs.all LV.cellOk = true
    ·simp only [if_pos hc, iI]
    ·simp only [if_neg hc, iI]
 | _ => rfl
def qA (s : St) (n : Nat) (ok : Bool) (z : DV) (ro : Option (Option Nat)) (m k : LV) : Option LV :=
 if Ao s.low.length ro (some m) then match m with
  | .mref j t g' => match k.key n with
   | none => none
   | some key => match s.entries j t g' n with
    | some es => some (if ok then LV.norm (.tup [((AM key es 0).map fun p => p.2.copy).getD (.d z), .d (.bool (AM key es 0).isSome)]) else ((AM key es 0).map fun p => p.2.copy).getD (.d z))
    | none => none
  | m => RR n ok z m k
 else none
theorem fQ (n : Nat) (m k : yV) (ok : Bool) (z : DV) : evalOps LP C g (⟨t, .lookup n m k ok z, none, ro⟩ :: r) s = G0 LP C (g + 1) r s t (qA s n ok z ro (s.val LP m) (s.val LP k)) := by
 have e : Ai LP C g ⟨t, .lookup n m k ok z, none, ro⟩ s = if Ao s.low.length ro (some (s.val LP m)) = true then evalOp LP C g t (.lookup n m k ok z) s else none := rfl
 simp only [evalOps, e, qA]
 by_cases h : Ao s.low.length ro (some (s.val LP m)) = true
 case neg => rw [if_neg h, if_neg h]; rfl
 case pos =>
  rw [if_pos h, if_pos h]
  simp only [evalOp]
  cases hk : (s.val LP k).key n with
  | none => cases s.val LP m <;> simp only [RR, hk] <;> rfl
  | some key => cases hm : s.val LP m with
   | mref j t' g' =>
    simp only
    cases s.entries j t' g' n with
    | none => rfl
    | some es => simp only; cases AM key es 0 <;> cases ok <;> rfl
   | d v => cases v with
    | fmap n' es =>
     simp only [RR, hk]
     by_cases hn : n' = n
     ·simp only [if_pos hn]; cases AM key es 0 <;> cases ok <;> rfl
     ·simp only [if_neg hn]; rfl
    | nilmap => simp only [RR, hk]; cases ok <;> rfl
    | _ => simp only [RR, hk]; rfl
   | _ => simp only [RR, hk]; rfl
theorem lM (x : Nat) : evalOps LP C g (⟨t, .move (.tmp x) true, none, ro⟩ :: r) s = dS LP C (g + 1) r s t x (s.raw x) := by
 have hr : Ao s.low.length ro none = true := by cases ro <;> rfl
 simp only [evalOps, Ai, yE.addr, Option.map_none, hr, if_true, evalOp, St.take, dS, St.raw]
 cases s.env.get x with
 | none => rfl
 | some y => cases y with
  | v y => cases y <;> rfl
  | _ => rfl
theorem mB (x : Nat) (z : Nat) (xs : List DV) (y : yV) (h : s.env.get x = some (.v (.hot z xs))) : ({ s with env := s.env.set x (.v (.d (.slice z xs))) } : St).val LP y = s.val LP y := by
 cases y with
 | tmp u =>
  simp only [St.val, St.slot, JL]
  by_cases hu : x = u
  ·subst hu; simp [h, LV.copy]
  ·simp only [hu, if_false]
 | con v => rfl
 | glob v => rfl
theorem eC (sz q x : Nat) (y : yV) : evalOps LP C g (⟨t, .append sz q (.tmp x) y, none, ro⟩ :: r) s = fb LP C (g + 1) r s t x sz q (s.val LP y) (s.raw x) := by
 have hr : Ao s.low.length ro none = true := by cases ro <;> rfl
 simp only [evalOps, Ai, yE.addr, Option.map_none, hr, if_true, evalOp, St.take, fb, St.raw]
 cases he : s.env.get x with
 | none => simp only; cases BD sz q (s.slot x) (s.val LP y) <;> rfl
 | some z => cases z with
  | v z => cases z with
   | hot z xs => simp only [mB s x z xs y he]; cases BD sz q (.hot z xs) (s.val LP y) <;> rfl
   | _ => simp only; cases BD sz q (s.slot x) (s.val LP y) <;> rfl
  | _ => simp only; cases BD sz q (s.slot x) (s.val LP y) <;> rfl
end
section
variable (LP : A2)
open Classical in
noncomputable def om : AP where
 call f args low ctr := if h : ∃ r, ∃ n, (GN LP n).call f args low ctr = some r then some h.choose else none
 round j g args low ctr := if h : ∃ r, ∃ n, (GN LP n).round j g args low ctr = some r then some h.choose else none
variable {LP}
theorem OY {f : Nat} {args : List LV} {low : List Fr} {ctr : Nat} {r : LV × List Fr × Nat} : (om LP).call f args low ctr = some r ↔ ∃ n, (GN LP n).call f args low ctr = some r := by
 constructor
 ·intro h
  simp only [om] at h
  split at h
  ·rename_i h'
   simp only [Option.some.injEq] at h
   exact h ▸ h'.choose_spec
  ·simp at h
 ·intro h
  have h' : ∃ r, ∃ n, (GN LP n).call f args low ctr = some r := ⟨r, h⟩
  simp only [om, dif_pos h', Option.some.injEq]
  obtain ⟨n, hn⟩ := h'.choose_spec
  obtain ⟨m, hm⟩ := h
  have h1 := (FG LP (Nat.le_max_left n m)).1 _ _ _ _ _ hn
  have h2 := (FG LP (Nat.le_max_right n m)).1 _ _ _ _ _ hm
  rw [h1] at h2
  exact Option.some.inj h2
theorem kp {j g : Nat} {args : List LV} {low : List Fr} {ctr : Nat} {r : Bool × List Fr × Nat} : (om LP).round j g args low ctr = some r ↔ ∃ n, (GN LP n).round j g args low ctr = some r := by
 constructor
 ·intro h
  simp only [om] at h
  split at h
  ·rename_i h'
   simp only [Option.some.injEq] at h
   exact h ▸ h'.choose_spec
  ·simp at h
 ·intro h
  have h' : ∃ r, ∃ n, (GN LP n).round j g args low ctr = some r := ⟨r, h⟩
  simp only [om, dif_pos h', Option.some.injEq]
  obtain ⟨n, hn⟩ := h'.choose_spec
  obtain ⟨m, hm⟩ := h
  have h1 := (FG LP (Nat.le_max_left n m)).2 _ _ _ _ _ _ hn
  have h2 := (FG LP (Nat.le_max_right n m)).2 _ _ _ _ _ _ hm
  rw [h1] at h2
  exact Option.some.inj h2
theorem fM {g : Nat} {dst : Option Nat} {o : yE} {s s' : St} (h : evalOp LP (om LP) g dst o s = some s') : ∃ n, evalOp LP (GN LP n) g dst o s = some s' := by
 cases o with
 | call f args vis =>
  cases vis with
  | none =>
   simp only [evalOp] at h
   split at h
   ·rename_i f' a b ds h1 h2
    split at h
    ·rename_i a' b' h3 h4
     split at h
     ·rename_i v x y h5
      obtain ⟨n, hn⟩ := OY.mp h5
      refine ⟨n, ?_⟩
      simp only [evalOp, h1, h2, h3, h4, hn]
      exact h
     ·simp at h
    ·simp at h
   ·simp at h
  | some vis =>
   have key : ∀ fv, s.val LP f = fv → (∀ j g', fv ≠ .yield j g') → ∃ n, evalOp LP (GN LP n) g dst (.call f args (some vis)) s = some s' := by
    intro fv hf hy
    have e : ∀ C, evalOp LP C g dst (.call f args (some vis)) s = match target fv with
      | some (f, a, b) => match C.call f (a ++ args.map (s.val LP) ++ b) (s.low ++ [{ env := s.env.keep vis, loop := none }]) s.ctr with
       | some (v, low', c') => match low'.getLast? with
        | some fr => if low'.length = s.low.length + 1 then ({ env := xl.merge vis s.env fr.env, low := low'.dropLast, ctr := c' } : St).put dst v else none
        | none => none
       | none => none
      | none => none := by
     intro C
     simp only [evalOp, hf]
     cases fv with
     | yield j g' => exact absurd rfl (hy j g')
     | _ => rfl
    rw [e] at h
    split at h
    ·rename_i f' a b ht
     split at h
     ·rename_i v low' c' h5
      obtain ⟨n, hn⟩ := OY.mp h5
      refine ⟨n, ?_⟩
      rw [e]
      simp only [ht, hn]
      exact h
     ·simp at h
    ·simp at h
   cases hf : s.val LP f with
   | yield j g' =>
    simp only [evalOp, hf] at h
    split at h
    ·rename_i b low' c' h5
     obtain ⟨n, hn⟩ := kp.mp h5
     refine ⟨n, ?_⟩
     simp only [evalOp, hf, hn]
     exact h
    ·simp at h
   | _ => exact key _ hf (by intro j g' e; cases e)
 | move x t => exact ⟨0, by cases t <;> exact h⟩
 | _ => exact ⟨0, h⟩
theorem iQ {g : Nat} {o : AH} {s s' : St} (h : Ai LP (om LP) g o s = some s') : ∃ n, Ai LP (GN LP n) g o s = some s' := by
 obtain ⟨dst, op, guard, root⟩ := o
 cases guard with
 | none =>
  simp only [Ai] at h ⊢
  by_cases hr : Ao s.low.length root (op.addr.map (s.val LP)) = true
  ·simp only [hr, if_true] at h ⊢
   exact fM h
  ·simp only [hr] at h
   simp at h
 | some p =>
  obtain ⟨t, w⟩ := p
  simp only [Ai] at h ⊢
  split at h
  ·rename_i b hb
   by_cases hw : b = w
   ·simp only [hw, if_true] at h ⊢
    by_cases hr : Ao s.low.length root (op.addr.map (s.val LP)) = true
    ·simp only [hr, if_true] at h ⊢
     exact fM h
    ·simp only [hr] at h
     simp at h
   ·simp only [hw, if_false] at h ⊢
    exact ⟨0, h⟩
  ·exact ⟨0, h⟩
  ·simp at h
theorem Ox : ∀ {ops : List AH} {g : Nat} {s s' : St}, evalOps LP (om LP) g ops s = some s' → Ij LP g ops s s'
 | [], g, s, s', h => by
  simp only [evalOps, Option.some.injEq] at h
  subst h; exact .nil
 | o :: r, g, s, s', h => by
  simp only [evalOps] at h
  split at h
  ·rename_i s1 h1
   exact .cons (iQ h1) (Ox h)
  ·simp at h
end
inductive gy where
 | seq (c : C0)
 | block (id : Nat)
 | loop (c : C0)
section
variable (LP : A2)
def Ep : List gy → xt → St → (xt → St → Prop) → Prop
 | [], j, s, J => J j s
 | .seq c :: ks, j, s, J => if j = .normal then ∃ j' s', Ae LP c s j' s' ∧ Ep ks j' s' J else Ep ks j s J
 | .block id :: ks, j, s, J => if j = .exit id then Ep ks .normal s J else Ep ks j s J
 | .loop c :: ks, j, s, J => if j = .normal then ∃ j' s', Ae LP (.loop c) s j' s' ∧ Ep ks j' s' J else Ep ks j s J
def Run (ks : List gy) (c : C0) (s : St) (J : xt → St → Prop) : Prop := ∃ j s', Ae LP c s j s' ∧ Ep LP ks j s' J
variable {LP} {ks : List gy} {s s' : St} {J : xt → St → Prop} {a b c : C0}
theorem Ep.nil {j : xt} (h : J j s) : Ep LP [] j s J := h
theorem Ep.seq (h : Run LP ks c s J) : Ep LP (.seq c :: ks) .normal s J := by simp only [Ep, if_true]; exact h
theorem dH {i : Nat} (h : Ep LP ks (.exit i) s J) : Ep LP (.seq c :: ks) (.exit i) s J := by simp only [Ep, reduceCtorEq, if_false]; exact h
theorem ep (h : Ep LP ks .ret s J) : Ep LP (.seq c :: ks) .ret s J := by simp only [Ep, reduceCtorEq, if_false]; exact h
theorem Ep.loop (h : Run LP ks (.loop c) s J) : Ep LP (.loop c :: ks) .normal s J := by simp only [Ep, if_true]; exact h
theorem YH {i : Nat} (h : Ep LP ks (.exit i) s J) : Ep LP (.loop c :: ks) (.exit i) s J := by simp only [Ep, reduceCtorEq, if_false]; exact h
theorem cw (h : Ep LP ks .ret s J) : Ep LP (.loop c :: ks) .ret s J := by simp only [Ep, reduceCtorEq, if_false]; exact h
theorem Ep.block {id : Nat} (h : Ep LP ks .normal s J) : Ep LP (.block id :: ks) .normal s J := by simp only [Ep, reduceCtorEq, if_false]; exact h
theorem Ep.block_exit {id : Nat} (h : Ep LP ks .normal s J) : Ep LP (.block id :: ks) (.exit id) s J := by simp only [Ep, if_true]; exact h
theorem Ep.block_pass {id i : Nat} (hi : i ≠ id) (h : Ep LP ks (.exit i) s J) : Ep LP (.block id :: ks) (.exit i) s J := by simp only [Ep, xt.exit.injEq, hi, if_false]; exact h
theorem Ep.block_ret {id : Nat} (h : Ep LP ks .ret s J) : Ep LP (.block id :: ks) .ret s J := by simp only [Ep, reduceCtorEq, if_false]; exact h
theorem Run.skip (h : Ep LP ks .normal s J) : Run LP ks .skip s J := ⟨_, _, .skip, h⟩
theorem Run.exit {i : Nat} (h : Ep LP ks (.exit i) s J) : Run LP ks (.exit i) s J := ⟨_, _, .exit, h⟩
theorem Run.ret (h : Ep LP ks .ret s J) : Run LP ks .ret s J := ⟨_, _, .ret, h⟩
theorem Run.seq (h : Run LP (.seq b :: ks) a s J) : Run LP ks (.seq a b) s J := by
 obtain ⟨j, s', h1, h2⟩ := h
 by_cases hj : j = .normal
 ·subst hj
  simp only [Ep, if_true] at h2
  obtain ⟨j', s'', h3, h4⟩ := h2
  exact ⟨j', s'', .seq h1 h3, h4⟩
 ·simp only [Ep, hj, if_false] at h2
  exact ⟨j, s', .seq_jump h1 hj, h2⟩
theorem Run.block {id : Nat} (h : Run LP (.block id :: ks) c s J) : Run LP ks (.block id c) s J := by
 obtain ⟨j, s', h1, h2⟩ := h
 cases j with
 | normal => simp only [Ep, reduceCtorEq, if_false] at h2; exact ⟨_, _, .block h1, h2⟩
 | ret => simp only [Ep, reduceCtorEq, if_false] at h2; exact ⟨_, _, .block_ret h1, h2⟩
 | exit i =>
  by_cases hi : i = id
  ·subst hi; simp only [Ep, if_true] at h2; exact ⟨_, _, .block_exit h1, h2⟩
  ·simp only [Ep, xt.exit.injEq, hi, if_false] at h2; exact ⟨_, _, .block_pass h1 hi, h2⟩
theorem Run.scope (h : Run LP ks c s J) : Run LP ks (.scope c) s J := by
 obtain ⟨j, s', h1, h2⟩ := h
 exact ⟨j, s', .scope h1, h2⟩
theorem Run.cond {x : yV} {v : Bool} (hv : s.val LP x = .d (.bool v)) (h : Run LP ks (if v = true then a else b) s J) : Run LP ks (.cond x a b) s J := by
 obtain ⟨j, s', h1, h2⟩ := h
 exact ⟨j, s', .cond (c := v) (by rw [hv]; rfl) h1, h2⟩
theorem Run.condT {x : yV} (hv : s.val LP x = .d (.bool true)) (h : Run LP ks a s J) : Run LP ks (.cond x a b) s J := Run.cond hv h
theorem Run.condF {x : yV} (hv : s.val LP x = .d (.bool false)) (h : Run LP ks b s J) : Run LP ks (.cond x a b) s J := Run.cond hv h
def rM (keep : List Nat) : Option St → Option (xl × List Fr)
 | some s => some (s.env.keep keep, s.low)
 | none => none
theorem Run.ops {ops : List AH} {keep : List Nat} {e e' : xl} {low low' : List Fr} {ctr : Nat} (h : rM keep (evalOps LP (om LP) ctr ops ⟨e, low, ctr + ops.length⟩) = some (e', low'))
  (h' : ∀ ctr', Ep LP ks .normal ⟨e', low', ctr'⟩ J) : Run LP ks (.ops ops keep) ⟨e, low, ctr⟩ J := by
 cases he : evalOps LP (om LP) ctr ops ⟨e, low, ctr + ops.length⟩ with
 | none => rw [he] at h; simp [rM] at h
 | some s' =>
  rw [he] at h
  simp only [rM, Option.some.injEq, Prod.mk.injEq] at h
  obtain ⟨rfl, rfl⟩ := h
  exact ⟨.normal, { s' with env := s'.env.keep keep }, .ops (Ox he), h' s'.ctr⟩
theorem pF (h : Run LP (.loop c :: ks) c s J) : Run LP ks (.loop c) s J := by
 obtain ⟨j, s', h1, h2⟩ := h
 by_cases hj : j = .normal
 ·subst hj
  simp only [Ep, if_true] at h2
  obtain ⟨j', s'', h3, h4⟩ := h2
  exact ⟨j', s'', .loop h1 h3, h4⟩
 ·simp only [Ep, hj, if_false] at h2
  exact ⟨j, s', .loop_jump h1 hj, h2⟩
end
def turns {σ ρ : Type} (f : σ → Option (σ ⊕ ρ)) : Nat → σ → Option ρ
 | 0, _ => none
 | n + 1, x => match f x with
  | none => none
  | some (.inr r) => some r
  | some (.inl x') => turns f n x'
theorem bE {σ ρ : Type} {f : σ → Option (σ ⊕ ρ)} : ∀ {n m : Nat} {x : σ} {r : ρ}, n ≤ m → turns f n x = some r → turns f m x = some r
 | 0, _, _, _, _, h => by simp [turns] at h
 | n + 1, 0, _, _, hm, _ => by omega
 | n + 1, m + 1, x, r, hm, h => by
  simp only [turns] at h ⊢
  split at h
  ·simp at h
  ·exact h
  ·exact bE (by omega) h
open Classical in
noncomputable def Loop {σ ρ : Type} (f : σ → Option (σ ⊕ ρ)) (x : σ) : Option ρ := if h : ∃ r, ∃ n, turns f n x = some r then some h.choose else none
theorem Oy {σ ρ : Type} {f : σ → Option (σ ⊕ ρ)} {x : σ} {r : ρ} : Loop f x = some r ↔ ∃ n, turns f n x = some r := by
 constructor
 ·intro h
  simp only [Loop] at h
  split at h
  ·rename_i h'
   simp only [Option.some.injEq] at h
   exact h ▸ h'.choose_spec
  ·simp at h
 ·intro h
  have h' : ∃ r, ∃ n, turns f n x = some r := ⟨r, h⟩
  simp only [Loop, dif_pos h', Option.some.injEq]
  obtain ⟨n, hn⟩ := h'.choose_spec
  obtain ⟨m, hm⟩ := h
  have h1 := bE (Nat.le_max_left n m) hn
  have h2 := bE (Nat.le_max_right n m) hm
  rw [h1] at h2
  exact Option.some.inj h2
theorem Loop.step {σ ρ : Type} {f : σ → Option (σ ⊕ ρ)} {x x' : σ} (h : f x = some (.inl x')) : Loop f x = Loop f x' := by
 apply Option.ext
 intro r
 rw [Oy, Oy]
 constructor
 ·rintro ⟨n, hn⟩
  cases n with
  | zero => simp [turns] at hn
  | succ n => simp only [turns, h] at hn; exact ⟨n, hn⟩
 ·rintro ⟨n, hn⟩
  exact ⟨n + 1, by simp only [turns, h]; exact hn⟩
theorem Loop.done {σ ρ : Type} {f : σ → Option (σ ⊕ ρ)} {x : σ} {r : ρ} (h : f x = some (.inr r)) : Loop f x = some r :=
 Oy.mpr ⟨1, by simp only [turns, h]⟩
theorem Run.loop {LP : A2} {ks : List gy} {c : C0} {σ ρ : Type} {f : σ → Option (σ ⊕ ρ)} {E : σ → St → Prop} {J : xt → St → Prop} {r : ρ}
  (hs : ∀ x s out, E x s → f x = some out → (∀ x', out = .inl x' → ∀ s', E x' s' → Run LP ks (.loop c) s' J) → (∀ r', out = .inr r' → r' = r) → Run LP (.loop c :: ks) c s J)
  {x : σ} {s : St} (he : E x s) (hl : Loop f x = some r) : Run LP ks (.loop c) s J := by
 obtain ⟨n, hn⟩ := Oy.mp hl
 clear hl
 induction n generalizing x s with
 | zero => simp [turns] at hn
 | succ n ih =>
  simp only [turns] at hn
  apply pF
  cases ho : f x with
  | none => rw [ho] at hn; simp at hn
  | some out =>
   rw [ho] at hn
   refine hs x s out he ho ?_ ?_
   ·rintro x' rfl s' hs'
    exact ih hs' hn
   ·rintro r' rfl
    exact Option.some.inj hn
class G2 (α : Type) extends yA α where
 len : ∀ x : α, (yA.cells x).length = yA.n α
 ok : ∀ x : α, ((yA.cells x).map LV.d).all LV.cellOk = true
class RU (α : Type) extends G2 α where
 agg : ∀ x : α, yA.enc x = .agg (yA.cells x)
class BU (α : Type) extends RU α where
 key : α → List Int
 hkey : ∀ x : α, yA.cells x = (key x).map .int
instance : G2 Int := ⟨fun _ => rfl, fun _ => rfl⟩
instance : G2 Bool := ⟨fun _ => rfl, fun _ => rfl⟩
inductive Fv where
 | nil
 | mk (f : Nat) (first cap : List DV)
 deriving Inhabited
def Fv.dv : Fv → DV
 | nil => .nilfn
 | mk f a b => .fn f a b
instance : yA Fv := ⟨1, fun x => [x.dv], Fv.dv, fun x => by cases x <;> rfl⟩
inductive Mp (n : Nat) (α : Type) where
 | nil
 | mk (es : List (List Int × α))
 deriving Inhabited
section
variable {α : Type} [yA α] {n : Nat}
def Mp.dv : Mp n α → DV
 | nil => .nilmap
 | mk es => .fmap n (es.map fun p => (p.1, yA.enc p.2))
instance : yA (Mp n α) := ⟨1, fun x => [x.dv], Mp.dv, fun x => by cases x <;> rfl⟩
end
structure Ar (n : Nat) (α : Type) where
 l : List α
 h : l.length = n
instance {n : Nat} {α : Type} [yA α] : yA (Ar n α) := ⟨n * yA.n α, fun x => x.l.flatMap yA.cells, fun x => .agg (x.l.flatMap yA.cells), fun _ => rfl⟩
def Ar.ix {n : Nat} {α : Type} (x : Ar n α) (i : Int) : Option α := if 0 ≤ i then x.l[i.toNat]? else none
def Ar.put {n : Nat} {α : Type} (x : Ar n α) (i : Int) (v : α) : Ar n α := ⟨x.l.set i.toNat v, by rw [List.length_set]; exact x.h⟩
section
variable {α : Type} (x : Sl α)
theorem dR : x.spent.len = x.len := by cases x <;> rfl
theorem X2 : x.spent.spent = x.spent := by cases x <;> rfl
theorem wd : x.spent.l = x.l := by cases x <;> rfl
theorem lQ (i : Int) : x.spent.ix i = x.ix i := by cases x <;> rfl
theorem fO (xs : List α) : (Sl.hot xs).spent = .cold xs := rfl
theorem Z4 (xs : List α) : (Sl.cold xs).spent = .cold xs := rfl
theorem dt : (Sl.nil : Sl α).spent = .nil := rfl
theorem aK (xs : List α) : (Sl.full xs).spent = .full xs := rfl
variable [yA α]
theorem eZ : LV.cellOk (.d (yA.enc x)) = true := by cases x <;> rfl
theorem oY : LV.cellOk x.lv = true := by cases x <;> rfl
theorem bm : LV.known (.d (yA.enc x)) = some [.d (yA.enc x)] := by cases x <;> rfl
theorem Vr : LV.known x.lv = some [x.lv] := by cases x <;> rfl
theorem kJ : yA.cells x = [yA.enc x] := rfl
theorem sV : LV.toD x.lv = some (yA.enc x) := by cases x <;> rfl
theorem nk (xs : List α) : (Sl.cold xs).lv = .d (yA.enc (Sl.cold xs)) := rfl
theorem sP : (Sl.nil : Sl α).lv = .d .nils := rfl
theorem nu : yA.enc (Sl.nil : Sl α) = .nils := rfl
theorem LS (k t : Nat) : L9 k t (.v x.lv) = x.spent.lv := by cases x <;> rfl
theorem kO : tU (.d (yA.enc x)) = some (.d (.int x.len)) := by cases x <;> simp [tU, iP, OV, yA.enc, Sl.dv, Sl.len, Sl.l]
theorem kK : tU x.lv = some (.d (.int x.len)) := by cases x <;> simp [tU, iP, OV, Sl.lv, Sl.len, Sl.l]
theorem Rr : yA.enc x.spent = yA.enc x := by cases x <;> rfl
theorem lD : yA.enc x.cool = yA.enc x := by cases x <;> rfl
theorem oR {i : Int} {a : α} {sz : Nat} (h : x.ix i = some a) (hz : yA.n α = sz) : nc sz (.d (yA.enc x)) (.d (.int i)) = some (.d (.fptr (yA.cells a) 0)) := by
 unfold Sl.ix at h
 split at h
 ·rename_i hi
  cases x <;> simp_all [Sl.l, nc, OV, GQ, yA.enc, Sl.dv, yA.law]
  all_goals (obtain ⟨hl, rfl⟩ := List.getElem?_eq_some_iff.mp h; exact (yA.law _).symm ▸ rfl)
 ·simp at h
theorem tZ {i : Int} {a : α} {sz : Nat} (h : x.ix i = some a) (hz : yA.n α = sz) : nc sz x.lv (.d (.int i)) = some (.d (.fptr (yA.cells a) 0)) := by
 have := oR x h hz
 cases x <;> exact this
end
section
variable {α : Type} [RU α] (x : α)
theorem Q5 : LV.known (.d (yA.enc x)) = some ((yA.cells x).map .d) := by rw [RU.agg]; rfl
theorem rR {n : Nat} (hn : yA.n α = n) : aJ n (.d (yA.enc x)) = some ((yA.cells x).map .d) := by
 simp only [aJ, Q5, List.length_map, G2.len, hn, G2.ok, and_self, if_true]
end
theorem lE (a : Int) : aJ 1 (.d (.int a)) = some [.d (.int a)] := rfl
theorem eV (a : Bool) : aJ 1 (.d (.bool a)) = some [.d (.bool a)] := rfl
theorem oG {α : Type} [yA α] (x : Sl α) : aJ 1 (.d (yA.enc x)) = some [.d (yA.enc x)] := by
 simp [aJ, bm, eZ]
theorem HF (v : DV) : (LV.d v).copy = .d v := rfl
theorem Ry (cs : List DV) : AX (cs.map .d) = some cs := by
 induction cs with
 | nil => rfl
 | cons c cs ih => simp [AX, LV.toD, ih]
theorem dI (k : Option Nat) (off : Nat) (cs : List DV) : part k off (cs.map .d) = (Av k off cs).map .d := by
 cases k with
 | none => simp only [part, Av, List.getElem?_map, Option.map_map]; rfl
 | some n =>
  have hm : (((cs.map LV.d).drop off).take n).map LV.copy = ((cs.drop off).take n).map LV.d := by
   rw [← List.map_drop, ← List.map_take, List.map_map]
   rfl
  have hl : (((cs.map LV.d).drop off).take n).length = ((cs.drop off).take n).length := by
   rw [← List.map_drop, ← List.map_take, List.length_map]
  simp only [part, Av, hm, hl]
  split
  ·simp only [LV.norm, LV.toD, Ry, Option.map_some]
  ·rfl
theorem lG (k : Option Nat) (off : Nat) (cs : List DV) : K6 k off (.d (.agg cs)) = (Av k off cs).map .d := rfl
theorem Oj {α : Type} [RU α] (x : α) (k : Option Nat) (off : Nat) : K6 k off (.d (yA.enc x)) = (Av k off (yA.cells x)).map .d := by rw [RU.agg]; rfl
theorem aS (k : Option Nat) (off g : Nat) (cs : List DV) : HN k off g (some (.box g (cs.map .d))) = (Av k off cs).map .d := by simp only [HN, if_true, dI]
theorem Ww (g : Nat) (v : DV) : HN none 0 g (some (.box g [.d v])) = some (.d v) := by simp [HN, part, LV.copy]
theorem I1 (s : St) (t g : Nat) : s.cells s.low.length t g = match s.raw t with
  | some (.box g' cs) => if g' = g then some cs else none
  | _ => none := by
 simp only [St.cells, St.at, if_true, St.raw]
 cases s.env.get t with
 | none => rfl
 | some x => cases x <;> rfl
theorem eU (s : St) (k : Option Nat) (j t g off : Nat) (hj : j = s.low.length) : RJ s k none (.ptr j t g off) = HN k off g (s.raw t) := by
 subst hj
 simp only [RJ, Ao, if_true, I1]
 cases s.raw t with
 | none => rfl
 | some x => cases x with
  | box g' cs =>
   simp only [HN]
   by_cases hg : g' = g
   ·simp only [if_pos hg]
   ·simp only [if_neg hg]
  | _ => rfl
theorem ZT (s : St) (k : Option Nat) (j t g off : Nat) (hj : j = s.low.length) : RJ s k (some (some t)) (.ptr j t g off) = HN k off g (s.raw t) := by
 subst hj
 have h : Ao s.low.length (some (some t)) (some (.ptr s.low.length t g off)) = true := by simp [Ao]
 simp only [RJ, h, if_true, I1]
 cases s.raw t with
 | none => rfl
 | some x => cases x with
  | box g' cs =>
   simp only [HN]
   by_cases hg : g' = g
   ·simp only [if_pos hg]
   ·simp only [if_neg hg]
  | _ => rfl
theorem aR (s : St) (k : Option Nat) (ro : Option (Option Nat)) (cs : List DV) (off : Nat) : RJ s k ro (.d (.fptr cs off)) = (Av k off cs).map .d := by
 have h : Ao s.low.length ro (some (.d (.fptr cs off))) = true := by cases ro <;> rfl
 simp only [RJ, h, if_true]
theorem aH (off j t g o : Nat) : Ja off (.ptr j t g o) = some (.ptr j t g (o + off)) := rfl
theorem XG (off : Nat) (cs : List DV) (o : Nat) : Ja off (.d (.fptr cs o)) = some (.d (.fptr cs (o + off))) := rfl
theorem aO (k : Nat) (p : Option LV) : Ao k none p = true := rfl
theorem Zd (j k t g off : Nat) (h : j = k) : Ao k (some (some t)) (some (.ptr j t g off)) = true := by simp [Ao, h]
theorem WO (k : Nat) (ro : Option (Option Nat)) (v : DV) : Ao k ro (some (.d v)) = true := by cases ro <;> rfl
def m0 (s : St) : yV → Option BL
 | .tmp u => s.raw u
 | .con v => some (.v (.d v))
 | .glob _ => none
section
variable (LP : A2) (C : AP)
def TO (g : Nat) (r : List AH) (s : St) (n t g' off : Nat) (x : yV) : Option BL → Option St
 | some (.v (.d v)) => iI LP C g r ((Gt n off g' (LV.known (.d v)) (s.raw t)).map fun b => s.upd t b)
 | some (.v (.hot z xs)) => match x with
  | .tmp u => iI LP C g r ((Gt n off g' (some [.hot z xs]) (if u = t then some (.v (.d (.slice z xs))) else s.raw t)).map fun b => (s.upd u (.v (.d (.slice z xs)))).upd t b)
  | _ => none
 | _ => Ir LP C g r s n (.ptr s.low.length t g' off) x
variable {LP C} (g : Nat) (r : List AH) (s : St)
theorem ZY (n j t g' off : Nat) (x : yV) (hj : j = s.low.length) : Ir LP C g r s n (.ptr j t g' off) x = TO LP C g r s n t g' off x (m0 s x) := by
 subst hj
 have main : ∀ (y : LV) (s1 : St), s1.low = s.low → s.take LP x = (y, s1) → Ir LP C g r s n (.ptr s.low.length t g' off) x = iI LP C g r ((Gt n off g' y.known (s1.raw t)).map fun b => s1.upd t b) := by
  intro y s1 hl ht
  simp only [Ir, ht]
  rw [← hl, I1]
  cases hx : s1.raw t with
  | none => rfl
  | some z => cases z with
   | box g2 cs =>
    simp only [Gt]
    by_cases hg : g2 = g'
    ·subst hg
     simp only [if_true]
     cases y.known with
     | none => rfl
     | some xs =>
      simp only
      by_cases hc : xs.length = n ∧ off + n ≤ cs.length ∧ xs.all LV.cellOk = true
      ·simp only [if_pos hc, Option.map_some, St.setAt, hl, if_true, St.upd]
      ·simp only [if_neg hc]; rfl
    ·simp only [if_neg hg]
     cases y.known <;> rfl
   | _ => rfl
 cases x with
 | con v => exact main (.d v) s rfl rfl
 | glob n => rfl
 | tmp u =>
  simp only [m0]
  cases hu : s.raw u with
  | none => rfl
  | some z => cases z with
   | v z => cases z with
    | d v => exact main (.d v) s rfl (by simp only [St.take]; unfold St.raw at hu; simp only [hu, St.slot, LV.copy])
    | hot z xs =>
     rw [main (.hot z xs) (s.upd u (.v (.d (.slice z xs)))) rfl (by simp only [St.take]; unfold St.raw at hu; simp only [hu]; rfl)]
     simp only [TO, Aj, LV.known]
    | _ => rfl
   | _ => rfl
end
theorem uJ {n g : Nat} {xs cs : List LV} (h1 : cs.length = n) (h2 : xs.length = n) (h3 : xs.all LV.cellOk = true) : Gt n 0 g (some xs) (some (.box g cs)) = some (.box g xs) := by
 simp only [Gt, if_true, h1, h2, h3, Nat.zero_add, Nat.le_refl, and_self, Option.some.injEq, BL.box.injEq, true_and]
 simp [setCells, h1, h2]
def Iq (C : AP) (f : Nat) (ds : List DV) : Option LV := match C.call f (ds.map .d) [] 0 with
 | some (v, _, _) => v.toD.map .d
 | none => none
def rl (C : AP) (f : Nat) : Option (List DV) → Option LV
 | some ds => Iq C f ds
 | none => none
theorem jv (C : AP) (f : Nat) (args : List LV) : i8 C (.d (.fn f [] [])) args = rl C f (AX args) := by
 simp only [i8, target, List.map_nil]
 cases AX args with
 | none => rfl
 | some ds => simp only [AX, List.nil_append, List.append_nil]; rfl
theorem V8 (C : AP) (f : Nat) (ds : List DV) : rl C f (some ds) = Iq C f ds := rfl
theorem Vh : AX [] = some [] := rfl
theorem kZ (v : DV) (r : List LV) : AX (.d v :: r) = (AX r).map (v :: ·) := by
 simp only [AX, LV.toD]; cases AX r <;> rfl
theorem ov {α : Type} [yA α] (x : Sl α) (r : List LV) : AX (x.lv :: r) = (AX r).map (yA.enc x :: ·) := by
 simp only [AX, sV]; cases AX r <;> rfl
theorem d5 {α β : Type} [yA α] [yA β] (x : α × β) : qC 0 (some (.v (.d (yA.enc x)))) = some (.d (yA.enc x.1)) := rfl
theorem Zq {α β : Type} [yA α] [yA β] (x : α × β) : qC 1 (some (.v (.d (yA.enc x)))) = some (.d (yA.enc x.2)) := rfl
theorem pg (x : Int) : yA.enc x = .int x := rfl
theorem j9 (x : Bool) : yA.enc x = .bool x := rfl
theorem dX (x : Int) : yA.cells x = [.int x] := rfl
theorem Z9 (x : Bool) : yA.cells x = [.bool x] := rfl
theorem fW (x : DV) : Av none 0 [x] = some x := rfl
theorem QZ (LP : A2) (s : St) (t : Nat) : s.val LP (.tmp t) = s.slot t := rfl
theorem nP (LP : A2) (s : St) (v : DV) : s.val LP (.con v) = .d v := rfl
theorem nS (a b : LV) : oL (.d (.bool true)) a b = some a := rfl
theorem pX (a b : LV) : oL (.d (.bool false)) a b = some b := rfl
theorem j5 (a b : Int) : kS .add (.d (.int a)) (.d (.int b)) = some (.d (.int (W (a + b)))) := rfl
theorem lH (a b : Int) : kS .sub (.d (.int a)) (.d (.int b)) = some (.d (.int (W (a - b)))) := rfl
theorem kW (a b : Int) : kS .mul (.d (.int a)) (.d (.int b)) = some (.d (.int (W (a * b)))) := rfl
theorem kg (a b : Int) : kS .lss (.d (.int a)) (.d (.int b)) = some (.d (.bool (decide (a < b)))) := rfl
theorem kx (a b : Int) : kS .leq (.d (.int a)) (.d (.int b)) = some (.d (.bool (decide (a ≤ b)))) := rfl
theorem lP (a b : Int) : kS .gtr (.d (.int a)) (.d (.int b)) = some (.d (.bool (decide (b < a)))) := rfl
theorem jl (a b : Int) : kS .geq (.d (.int a)) (.d (.int b)) = some (.d (.bool (decide (b ≤ a)))) := rfl
theorem jo (a b : Int) : kS .eql (.d (.int a)) (.d (.int b)) = some (.d (.bool (decide (a = b)))) := by
 show (CC (binOp .eql 0 (.int .i64 a) (.int .i64 b))).map LV.d = _
 rw [vU]; rfl
theorem ki (a b : Int) : kS .neq (.d (.int a)) (.d (.int b)) = some (.d (.bool (!decide (a = b)))) := by
 show (CC (binOp .neq 0 (.int .i64 a) (.int .i64 b))).map LV.d = _
 rw [u9]; rfl
theorem nF (b : Bool) : yy .not (.d (.bool b)) = some (.d (.bool (!b))) := rfl
theorem uV (keep : List Nat) (s : St) : rM keep (some s) = some (s.env.keep keep, s.low) := rfl
def bV : List Nat → St → xl
 | [], _ => []
 | t :: ts, s => match s.raw t with
  | some x => (t, x) :: bV ts s
  | none => bV ts s
theorem wL (ks : List Nat) (s : St) : s.env.keep ks = bV ks s := by
 induction ks with
 | nil => rfl
 | cons t ts ih =>
  simp only [xl.keep, List.filterMap_cons, bV, St.raw] at *
  cases s.env.get t with
  | none => exact ih
  | some x => simp only [Option.map_some]; rw [ih]
def uv (t : Nat) (ts : List Nat) (s : St) : Option BL → xl
 | some x => (t, x) :: bV ts s
 | none => bV ts s
theorem uL (t : Nat) (ts : List Nat) (s : St) : bV (t :: ts) s = uv t ts s (s.raw t) := rfl
theorem uH (t : Nat) (ts : List Nat) (s : St) (x : BL) : uv t ts s (some x) = (t, x) :: bV ts s := rfl
theorem vV (s : St) : bV [] s = [] := rfl
instance {α : Type} [yA α] : G2 (Sl α) := ⟨fun _ => rfl, fun x => by cases x <;> rfl⟩
instance : G2 Fv := ⟨fun _ => rfl, fun x => by cases x <;> rfl⟩
instance {n : Nat} {α : Type} [yA α] : G2 (Mp n α) := ⟨fun _ => rfl, fun x => by cases x <;> rfl⟩
theorem kX {α : Type} [G2 α] : ∀ l : List α, (l.flatMap yA.cells).length = l.length * yA.n α
 | [] => by simp
 | x :: l => by simp only [List.flatMap_cons, List.length_append, G2.len, kX l, List.length_cons]; rw [Nat.add_mul, Nat.one_mul, Nat.add_comm]
theorem jO {α : Type} [G2 α] : ∀ l : List α, ((l.flatMap yA.cells).map LV.d).all LV.cellOk = true
 | [] => rfl
 | x :: l => by rw [List.flatMap_cons, List.map_append, List.all_append, G2.ok, jO l]; rfl
instance {n : Nat} {α : Type} [G2 α] : RU (Ar n α) := { len := fun x => by show (x.l.flatMap yA.cells).length = n * yA.n α; rw [kX, x.h], ok := fun x => jO x.l, agg := fun _ => rfl }
theorem wB {n : Nat} {α : Type} [yA α] (x : Ar n α) : yA.cells x = x.l.flatMap yA.cells := rfl
theorem SG : ∀ l : List Int, l.flatMap yA.cells = l.map DV.int
 | [] => rfl
 | x :: l => by rw [List.flatMap_cons, SG l]; rfl
instance {n : Nat} : BU (Ar n Int) := { key := fun x => x.l, hkey := fun x => SG x.l }
theorem du (a : Int) : LV.known (.d (.int a)) = some [.d (.int a)] := rfl
theorem aP (a : Bool) : LV.known (.d (.bool a)) = some [.d (.bool a)] := rfl
theorem aD : LV.known (.d .nils) = some [.d .nils] := rfl
theorem jb (a : Fv) : LV.known (.d (yA.enc a)) = some [.d (yA.enc a)] := by cases a <;> rfl
theorem jf {n : Nat} {α : Type} [yA α] (a : Mp n α) : LV.known (.d (yA.enc a)) = some [.d (yA.enc a)] := by cases a <;> rfl
theorem lB (x : Fv) : yA.cells x = [yA.enc x] := rfl
theorem kV {n : Nat} {α : Type} [yA α] (x : Mp n α) : yA.cells x = [yA.enc x] := rfl
theorem oH (x : Fv) : aJ 1 (.d (yA.enc x)) = some [.d (yA.enc x)] := by cases x <;> rfl
theorem gu : aJ 1 (.d .nils) = some [.d .nils] := rfl
theorem nO {α : Type} [yA α] (x : Sl α) : aJ 1 x.lv = some [x.lv] := by cases x <;> rfl
def C4 (n off : Nat) (xs cs : List LV) : Option (List LV) := if xs.length = n ∧ off + n ≤ cs.length ∧ xs.all LV.cellOk then some (setCells cs off xs) else none
theorem Zm (n off g : Nat) (xs cs : List LV) : Gt n off g (some xs) (some (.box g cs)) = (C4 n off xs cs).map fun c => .box g c := by
 simp only [Gt, C4, if_true]
 by_cases h : xs.length = n ∧ off + n ≤ cs.length ∧ xs.all LV.cellOk = true
 ·simp only [if_pos h, Option.map_some]
 ·simp only [if_neg h, Option.map_none]
theorem aC {α : Type} [RU α] (x : α) {n : Nat} {cs : List LV} (h1 : cs.length = n) (h2 : yA.n α = n) : C4 n 0 ((yA.cells x).map LV.d) cs = some ((yA.cells x).map LV.d) := by
 have h3 := G2.len x
 have h4 := G2.ok x
 simp only [C4, List.length_map, h3, h2, h4, Nat.zero_add, h1, Nat.le_refl, and_self, if_true]
 simp [setCells, h1, h2, h3]
theorem Fb {y : LV} (c : LV) (h : y.cellOk = true) : C4 1 0 [y] [c] = some [y] := by
 simp [C4, h, setCells]
theorem Zx (c : LV) (a : Int) : C4 1 0 [.d (.int a)] [c] = some [.d (.int a)] := Fb c rfl
theorem WC (c : LV) (a : Bool) : C4 1 0 [.d (.bool a)] [c] = some [.d (.bool a)] := Fb c rfl
theorem gQ {α : Type} [yA α] (c : LV) (a : Sl α) : C4 1 0 [.d (yA.enc a)] [c] = some [.d (yA.enc a)] := Fb c (eZ a)
theorem dy {α : Type} [yA α] (c : LV) (a : Sl α) : C4 1 0 [a.lv] [c] = some [a.lv] := Fb c (oY a)
theorem gV (c : LV) (a : Fv) : C4 1 0 [.d (yA.enc a)] [c] = some [.d (yA.enc a)] := Fb c (by cases a <;> rfl)
theorem dp {α : Type} [G2 α] (x : α) : ((yA.cells x).map LV.d).length = yA.n α := by rw [List.length_map, G2.len]
theorem Ie {α : Type} {x v : Sl α} {lo hi : Option Int} (h : x.sub lo hi = some v) : (∀ a, lo = some a → 0 ≤ a) ∧ (∀ a, hi = some a → 0 ≤ a) := by
 have : 0 ≤ lo.getD 0 ∧ 0 ≤ hi.getD 0 := by
  cases x <;> simp only [Sl.sub] at h <;> split at h <;> rename_i hc <;> first | (cases h; done) | (cases hi <;> simp_all <;> omega)
 constructor
 ·rintro a rfl; exact this.1
 ·rintro a rfl; exact this.2
section
variable {LP : A2} {C : AP} {α : Type} [yA α]
theorem fX (g : Nat) (r : List AH) (s : St) (n t g' off : Nat) (x : yV) (v : DV) : TO LP C g r s n t g' off x (some (.v (.d v))) = iI LP C g r ((Gt n off g' (LV.known (.d v)) (s.raw t)).map fun b => s.upd t b) := rfl
theorem OF : ∀ (e : xl) (t : Nat) (x : BL), e.get t = some x → e.set t x = e
 | [], t, x, h => by simp [xl.get] at h
 | (u, y) :: e, t, x, h => by
  simp only [xl.get] at h
  simp only [xl.set]
  by_cases hu : u = t
  ·subst hu; simp only [if_true, Option.some.injEq] at h ⊢; rw [h]
  ·simp only [if_neg hu] at h ⊢; rw [OF e t x h]
theorem EN (s : St) (t : Nat) (x : BL) (h : s.raw t = some x) : s.upd t x = s := by
 obtain ⟨e, low, ctr⟩ := s
 simp only [St.upd, OF e t x h]
theorem fe (g : Nat) (r : List AH) (s : St) (t : Option Nat) (u : Nat) (x : Sl α) (h : s.raw u = some (.v x.lv)) : dS LP C g r s t u (some (.v x.lv)) = G0 LP C g r (s.upd u (.v x.spent.lv)) t (some x.lv) := by
 have hs : s.slot u = x.spent.lv := by rw [H8, h]; exact LS x _ _
 cases x with
 | hot xs => rfl
 | nil => rw [show (Sl.nil : Sl α).spent = Sl.nil from rfl, EN s u _ h]; exact congrArg (fun y => G0 LP C g r s t (some y)) hs
 | cold xs => rw [show (Sl.cold xs).spent = Sl.cold xs from rfl, EN s u _ h]; exact congrArg (fun y => G0 LP C g r s t (some y)) hs
 | full xs => rw [show (Sl.full xs).spent = Sl.full xs from rfl, EN s u _ h]; exact congrArg (fun y => G0 LP C g r s t (some y)) hs
theorem qb (g : Nat) (r : List AH) (s : St) (t : Option Nat) (u : Nat) (v : DV) (h : s.raw u = some (.v (.d v))) : dS LP C g r s t u (some (.v (.d v))) = G0 LP C g r s t (some (.d v)) := by
 have hs : s.slot u = .d v := by rw [H8, h]; rfl
 simp only [dS, hs]
theorem Q3 (g : Nat) (r : List AH) (s : St) (t : Option Nat) (u sz q : Nat) (y : LV) (x : Sl α) (h : s.raw u = some (.v x.lv)) : fb LP C g r s t u sz q y (some (.v x.lv)) = G0 LP C g r (s.upd u (.v x.spent.lv)) t (BD sz q x.lv y) := by
 have hs : s.slot u = x.spent.lv := by rw [H8, h]; exact LS x _ _
 cases x with
 | hot xs => rfl
 | nil => rw [show (Sl.nil : Sl α).spent = Sl.nil from rfl, EN s u _ h]; exact congrArg (fun z => G0 LP C g r s t (BD sz q z y)) hs
 | cold xs => rw [show (Sl.cold xs).spent = Sl.cold xs from rfl, EN s u _ h]; exact congrArg (fun z => G0 LP C g r s t (BD sz q z y)) hs
 | full xs => rw [show (Sl.full xs).spent = Sl.full xs from rfl, EN s u _ h]; exact congrArg (fun z => G0 LP C g r s t (BD sz q z y)) hs
theorem vw (g : Nat) (r : List AH) (s : St) (t : Option Nat) (u sz q : Nat) (y : LV) (v : DV) (h : s.raw u = some (.v (.d v))) : fb LP C g r s t u sz q y (some (.v (.d v))) = G0 LP C g r s t (BD sz q (.d v) y) := by
 have hs : s.slot u = .d v := by rw [H8, h]; rfl
 simp only [fb, hs]
theorem je {q : Nat} {x r : Sl α} {ys : List α} {Y : LV} (hY : Y ≠ .d .nils) (hE : OV Y = some (yA.n α, ys.map yA.enc)) (h : x.app q ys = some r) : BD (yA.n α) q x.lv Y = some r.lv := by
 have e : BD (yA.n α) q x.lv Y = match x.lv with
   | .d .nils => if ys.map (yA.enc (α := α)) = [] then some (.d .nils) else if Js (ys.map (yA.enc (α := α))).length q then some (.hot (yA.n α) (ys.map yA.enc)) else none
   | .full z xs => if z = yA.n α then (if ys.map (yA.enc (α := α)) = [] then some (.full z xs) else if Js (xs.length + (ys.map (yA.enc (α := α))).length) q then some (.hot (yA.n α) (xs ++ ys.map yA.enc)) else none) else none
   | .hot z xs => if z = yA.n α ∧ Js (xs.length + (ys.map (yA.enc (α := α))).length) q = true then some (.hot (yA.n α) (xs ++ ys.map yA.enc)) else none
   | _ => none := by
  unfold BD
  split
  ·exact absurd rfl hY
  ·simp only [hE, ne_eq, not_true_eq_false, if_false]
   rfl
 rw [e]
 cases x with
 | nil =>
  simp only [Sl.app] at h
  simp only [Sl.lv, List.map_eq_nil_iff, List.length_map]
  by_cases h1 : ys = []
  ·rw [if_pos h1] at h ⊢; cases h; rfl
  ·rw [if_neg h1] at h ⊢
   by_cases h2 : Js ys.length q = true
   ·rw [if_pos h2] at h ⊢; cases h; rfl
   ·rw [if_neg h2] at h; cases h
 | cold xs => simp only [Sl.app] at h; cases h
 | hot xs =>
  simp only [Sl.app] at h
  simp only [Sl.lv, List.length_map, true_and]
  by_cases h2 : Js (xs.length + ys.length) q = true
  ·rw [if_pos h2] at h ⊢; cases h; simp
  ·rw [if_neg h2] at h; cases h
 | full xs =>
  simp only [Sl.app] at h
  simp only [Sl.lv, List.map_eq_nil_iff, List.length_map, if_true]
  by_cases h1 : ys = []
  ·rw [if_pos h1] at h ⊢; cases h; rfl
  ·rw [if_neg h1] at h ⊢
   by_cases h2 : Js (xs.length + ys.length) q = true
   ·rw [if_pos h2] at h ⊢; cases h; simp
   ·rw [if_neg h2] at h; cases h
theorem jh {q : Nat} {x r : Sl α} (h : x.app q [] = some r) : BD (yA.n α) q x.lv (.d .nils) = some r.lv := by
 cases x with
 | nil => simp only [Sl.app, if_true] at h; cases h; rfl
 | cold xs => simp only [Sl.app] at h; cases h
 | hot xs =>
  simp only [Sl.app, List.append_nil] at h
  simp only [BD, Sl.lv, if_true]
  by_cases h2 : Js (xs.length + ([] : List α).length) q = true
  ·rw [if_pos h2] at h; cases h; rfl
  ·rw [if_neg h2] at h; cases h
 | full xs => simp only [Sl.app, if_true] at h; cases h; simp [BD, Sl.lv]
theorem nG {q sz : Nat} {x y r : Sl α} (hz : yA.n α = sz) (h : x.app q y.l = some r) : BD sz q x.lv y.lv = some r.lv := by
 subst hz
 cases y with
 | nil => exact jh h
 | _ => exact je (by simp [Sl.lv]) rfl h
theorem oo {q sz : Nat} {x y r : Sl α} (hz : yA.n α = sz) (h : x.app q y.l = some r) : BD sz q x.lv (.d (yA.enc y)) = some r.lv := by
 subst hz
 cases y with
 | nil => exact jh h
 | _ => exact je (by simp [yA.enc, Sl.dv]) rfl h
theorem O3 (x : Sl α) : x.cool.lv = .d (yA.enc x) := by cases x <;> rfl
theorem uh {q sz : Nat} {x y r : Sl α} (hz : yA.n α = sz) (h : x.cool.app q y.l = some r) : BD sz q (.d (yA.enc x)) (.d (yA.enc y)) = some r.lv := by
 have := oo hz h
 rwa [O3] at this
theorem u4 {q sz : Nat} {x y r : Sl α} (hz : yA.n α = sz) (h : x.cool.app q y.l = some r) : BD sz q (.d (yA.enc x)) y.lv = some r.lv := by
 have := nG hz h
 rwa [O3] at this
theorem w8 {q sz : Nat} {x y r : Sl α} {ys : List α} (hz : yA.n α = sz) (hy : y.l = ys) (h : x.app q ys = some r) : BD sz q x.lv y.lv = some r.lv := nG hz (hy ▸ h)
theorem Eb {q sz : Nat} {x y r : Sl α} {ys : List α} (hz : yA.n α = sz) (hy : y.l = ys) (h : x.app q ys = some r) : BD sz q x.lv (.d (yA.enc y)) = some r.lv := oo hz (hy ▸ h)
theorem xE {q sz : Nat} {y r : Sl α} {ys : List α} (hz : yA.n α = sz) (hy : y.l = ys) (h : (Sl.nil : Sl α).app q ys = some r) : BD sz q (.d .nils) (.d (yA.enc y)) = some r.lv := oo (x := Sl.nil) hz (hy ▸ h)
theorem xA {q sz : Nat} {y r : Sl α} {ys : List α} (hz : yA.n α = sz) (hy : y.l = ys) (h : (Sl.nil : Sl α).app q ys = some r) : BD sz q (.d .nils) y.lv = some r.lv := nG (x := Sl.nil) hz (hy ▸ h)
theorem wj {q sz : Nat} {x y r : Sl α} {ys : List α} (hz : yA.n α = sz) (hy : y.l = ys) (h : x.cool.app q ys = some r) : BD sz q (.d (yA.enc x)) (.d (yA.enc y)) = some r.lv := uh hz (hy ▸ h)
theorem wm {q sz : Nat} {x y r : Sl α} {ys : List α} (hz : yA.n α = sz) (hy : y.l = ys) (h : x.cool.app q ys = some r) : BD sz q (.d (yA.enc x)) y.lv = some r.lv := u4 hz (hy ▸ h)
theorem lC {q : Nat} {x v : Sl α} {ys : List α} (h : x.app q ys = some v) (hy : ys ≠ []) : v.spent.lv = .d (yA.enc v) := by
 cases x with
 | nil => simp only [Sl.app, if_neg hy] at h; split at h <;> cases h; rfl
 | cold xs => simp only [Sl.app] at h; cases h
 | hot xs => simp only [Sl.app] at h; split at h <;> cases h; rfl
 | full xs => simp only [Sl.app, if_neg hy] at h; split at h <;> cases h; rfl
theorem ql {q : Nat} {xs : List α} {v : Sl α} {ys : List α} (h : (Sl.hot xs).app q ys = some v) : v.spent.lv = .d (yA.enc v) := by
 simp only [Sl.app] at h; split at h <;> cases h; rfl
theorem ZX {i : Int} (h : 0 ≤ i) : GQ (.d (.int i)) = some i.toNat := by simp [GQ, h]
theorem Oh {x v : Sl α} {sz : Nat} {lo hi : Option Int} (hz : yA.n α = sz) (h : x.sub lo hi = some v) (h0 : ∀ a, lo = some a → 0 ≤ a) (h1 : ∀ a, hi = some a → 0 ≤ a) :
  P2 sz (.d (yA.enc x)) (lo.map Int.toNat) (hi.map Int.toNat) none = some (.d (yA.enc v)) := by
 subst hz
 have main : ∀ xs : List α, (if 0 ≤ lo.getD 0 ∧ lo.getD 0 ≤ hi.getD xs.length ∧ hi.getD xs.length ≤ xs.length then some (Sl.cold ((xs.take (hi.getD xs.length).toNat).drop (lo.getD 0).toNat)) else none) = some v →
   P2 (yA.n α) (.d (.slice (yA.n α) (xs.map yA.enc))) (lo.map Int.toNat) (hi.map Int.toNat) none = some (.d (yA.enc v)) := by
  intro xs h
  split at h
  ·rename_i hc
   cases h
   have e1 : (lo.map Int.toNat).getD 0 = (lo.getD 0).toNat := by cases lo <;> rfl
   have e2 : (hi.map Int.toNat).getD xs.length = (hi.getD xs.length).toNat := by cases hi <;> simp
   simp only [P2, OV, e1, List.length_map, e2]
   rw [if_pos ⟨trivial, by omega, by omega⟩]
   simp [yA.enc, Sl.dv, List.map_take, List.map_drop]
  ·cases h
 cases x with
 | nil =>
  simp only [Sl.sub] at h
  split at h
  ·rename_i hc
   cases h
   have e1 : (lo.map Int.toNat).getD 0 = 0 := by cases lo <;> simp_all
   have e2 : (hi.map Int.toNat).getD 0 = 0 := by cases hi <;> simp_all
   simp [yA.enc, Sl.dv, P2, e1, e2]
  ·cases h
 | cold xs => exact main xs h
 | hot xs => exact main xs h
 | full xs => exact main xs h
theorem IV {a : Int} (h : 0 ≤ a) : HQ (some (.d (.int a))) = some (some a.toNat) := by simp [HQ, GQ, h]
theorem vg {x v : Sl α} {sz : Nat} (hz : yA.n α = sz) (h : x.sub none none = some v) : It sz (.d (yA.enc x)) none none none = some (.d (yA.enc v)) := by
 have := Oh hz h (Ie h).1 (Ie h).2
 simpa [It, HQ] using this
theorem kQ {x v : Sl α} {sz : Nat} {a : Int} (hz : yA.n α = sz) (h : x.sub (some a) none = some v) : It sz (.d (yA.enc x)) (some (.d (.int a))) none none = some (.d (yA.enc v)) := by
 have := Oh hz h (Ie h).1 (Ie h).2
 simpa [It, IV ((Ie h).1 a rfl), show HQ none = some none from rfl] using this
theorem jg {x v : Sl α} {sz : Nat} {b : Int} (hz : yA.n α = sz) (h : x.sub none (some b) = some v) : It sz (.d (yA.enc x)) none (some (.d (.int b))) none = some (.d (yA.enc v)) := by
 have := Oh hz h (Ie h).1 (Ie h).2
 simpa [It, IV ((Ie h).2 b rfl), show HQ none = some none from rfl] using this
theorem vh {x v : Sl α} {sz : Nat} {a b : Int} (hz : yA.n α = sz) (h : x.sub (some a) (some b) = some v) : It sz (.d (yA.enc x)) (some (.d (.int a))) (some (.d (.int b))) none = some (.d (yA.enc v)) := by
 have := Oh hz h (Ie h).1 (Ie h).2
 simpa [It, IV ((Ie h).1 a rfl), IV ((Ie h).2 b rfl), show HQ none = some none from rfl] using this
theorem OO {x v : Sl α} {sz : Nat} {b : Int} (hz : yA.n α = sz) (h : x.sub3 none b = some v) : It sz (.d (yA.enc x)) none (some (.d (.int b))) (some (.d (.int b))) = some v.lv := by
 subst hz
 have main : ∀ xs : List α, (if 0 ≤ (none : Option Int).getD 0 ∧ (none : Option Int).getD 0 ≤ b ∧ b ≤ xs.length then some (Sl.full ((xs.take b.toNat).drop ((none : Option Int).getD 0).toNat)) else none) = some v →
   It (yA.n α) (.d (.slice (yA.n α) (xs.map yA.enc))) none (some (.d (.int b))) (some (.d (.int b))) = some v.lv := by
  intro xs h
  split at h
  ·rename_i hc
   cases h
   simp only [Option.getD_none] at hc
   have hb : 0 ≤ b := by omega
   simp only [It, IV hb, show HQ none = some none from rfl, P2, OV, Option.getD_some, Option.getD_none, List.length_map]
   rw [if_pos ⟨trivial, by omega, by omega⟩]
   simp [Sl.lv, List.map_take]
  ·cases h
 cases x with
 | nil =>
  simp only [Sl.sub3] at h
  split at h
  ·rename_i hc
   obtain ⟨_, rfl⟩ := hc
   cases h
   rfl
  ·cases h
 | cold xs => exact main xs h
 | hot xs => exact main xs h
 | full xs => exact main xs h
end
theorem NG {α : Type} [yA α] (x : Sl α) : LV.cellOk (.d (yA.enc x)) = true := by cases x <;> rfl
theorem Ig (x : Int) : LV.cellOk (.d (.int x)) = true := rfl
theorem Vm (j t g : Nat) : LV.cellOk (.mref j t g) = true := rfl
theorem GT (x : Bool) : LV.cellOk (.d (.bool x)) = true := rfl
theorem ND (x : Fv) : LV.cellOk (.d (yA.enc x)) = true := by cases x <;> rfl
theorem NI {n : Nat} {α : Type} [yA α] (x : Mp n α) : LV.cellOk (.d (yA.enc x)) = true := by cases x <;> rfl
def St.tick (s : St) (n : Nat) : St := { s with ctr := s.ctr + n }
theorem lI (s : St) (n t : Nat) : (s.tick n).raw t = s.raw t := rfl
theorem ef (s : St) (n t : Nat) : (s.tick n).free t = s.free t := rfl
theorem jZ (s : St) (n : Nat) : (s.tick n).low = s.low := rfl
def tB (k t : Nat) : Option BL → LV
 | some x => L9 k t x
 | none => .d .bot
theorem Gp (k t : Nat) (x : BL) : tB k t (some x) = L9 k t x := rfl
theorem KN (s : St) (t : Nat) : s.slot t = tB s.low.length t (s.raw t) := by
 rw [H8]; cases s.raw t <;> rfl
def yT (B : List Nat) (s : St) : Prop := ∀ u, B.contains u = false → s.free u = true
def CY : List (Nat × BL) → St → Prop
 | [], _ => True
 | (t, x) :: l, s => s.raw t = some x ∧ CY l s
@[reducible] def Dc : List (Nat × BL) → St → Prop
 | [], _ => True
 | (t, x) :: l, s => s.raw t = some x ∧ Dc l s
theorem CY.r {s : St} : ∀ {l : List (Nat × BL)}, CY l s → Dc l s
 | [], _ => trivial
 | _ :: _, h => ⟨h.1, CY.r h.2⟩
theorem Z3 (s : St) : CY [] s = True := rfl
theorem Xx (t : Nat) (x : BL) (l : List (Nat × BL)) (s : St) : CY ((t, x) :: l) s = (s.raw t = some x ∧ CY l s) := rfl
theorem Ju (ks : List Nat) (e : xl) (t : Nat) : (e.keep ks).get t = if ks.contains t then e.get t else none := by
 induction ks with
 | nil => rfl
 | cons k ks ih =>
  simp only [xl.keep, List.filterMap_cons] at ih ⊢
  rw [List.contains_cons]
  by_cases h : t = k
  ·subst h
   cases he : e.get t with
   | none =>
    simp only [Option.map_none, ih, he]
    simp
   | some x => simp [xl.get, he]
  ·have hk : (t == k) = false := by simpa using h
   rw [hk, Bool.false_or]
   cases he : e.get k with
   | none => simp only [Option.map_none]; exact ih
   | some x =>
    simp only [Option.map_some, xl.get, if_neg (Ne.symm h)]
    exact ih
theorem jp (s : St) (ks : List Nat) (t : Nat) : St.raw { s with env := s.env.keep ks } t = if ks.contains t then s.raw t else none := Ju ..
theorem CY.keep {s : St} {ks : List Nat} : ∀ {l : List (Nat × BL)}, l.all (fun p => ks.contains p.1) = true → CY l s → CY l { s with env := s.env.keep ks }
 | [], _, _ => trivial
 | (t, x) :: l, h, hr => by
  simp only [List.all_cons, Bool.and_eq_true] at h
  exact ⟨by rw [jp, h.1]; exact hr.1, CY.keep h.2 hr.2⟩
theorem yT.keep {B : List Nat} {s : St} (ks : List Nat) (h : yT B s) : yT B { s with env := s.env.keep ks } := by
 intro u hu
 have := h u hu
 simp only [St.free] at this ⊢
 rw [jp]
 by_cases hk : ks.contains u = true
 ·rw [if_pos hk]; exact this
 ·rw [if_neg hk]
theorem Vx {B : List Nat} {s : St} (t : Nat) (x : LV) (h : yT B s) : yT B (s.upd t (.v x)) := by
 intro u hu
 rw [J9]
 split
 ·rfl
 ·exact h u hu
theorem N6 {B : List Nat} {s : St} (t : Nat) (x : BL) (ht : B.contains t = true) (h : yT B s) : yT B (s.upd t x) := by
 intro u hu
 rw [J9]
 split
 ·rename_i e; subst e; rw [ht] at hu; cases hu
 ·exact h u hu
theorem yT.put {B : List Nat} {s s' : St} {t : Option Nat} {v : LV} (h : yT B s) (hp : s.put t v = some s') : yT B s' := by
 cases t with
 | none => simp only [St.put, Option.some.injEq] at hp; subst hp; exact h
 | some t =>
  simp only [St.put] at hp
  split at hp
  ·cases hp
  ·cases hp
  ·simp only [Option.some.injEq] at hp; subst hp; exact Vx t v h
theorem yT.take {B : List Nat} {s : St} {LP : A2} (x : yV) (h : yT B s) : yT B (s.take LP x).2 := by
 cases x with
 | tmp t =>
  simp only [St.take]
  split
  ·exact Vx t _ h
  ·exact h
 | con v => exact h
 | glob v => exact h
theorem yT.setAt {B : List Nat} {s : St} {j t : Nat} {x : BL} (h : yT B s) (hb : j = s.low.length → s.free t = false) : yT B (s.setAt j t x) := by
 simp only [St.setAt]
 split
 ·rename_i hj
  refine N6 t x ?_ h
  cases hc : B.contains t with
  | true => rfl
  | false => have := h t hc; rw [hb hj] at this; cases this
 ·exact h
theorem Zc {s : St} {j t g : Nat} {cs : List LV} (h : s.cells j t g = some cs) : j = s.low.length → s.free t = false := by
 rintro rfl
 rw [I1] at h
 simp only [St.free]
 cases hr : s.raw t with
 | none => rw [hr] at h; cases h
 | some x => rw [hr] at h; cases x with
  | box g' cs => rfl
  | _ => cases h
theorem IW {s : St} {j t g n : Nat} {es : List (List Int × LV)} (h : s.entries j t g n = some es) : j = s.low.length → s.free t = false := by
 rintro rfl
 simp only [St.entries, St.at, if_true] at h
 simp only [St.free, St.raw]
 cases hr : s.env.get t with
 | none => rw [hr] at h; cases h
 | some x => rw [hr] at h; cases x with
  | mapo g' n es => rfl
  | _ => cases h
def yY (B : List Nat) (o : AH) : Bool := match o.op with
 | .alloc _ | .box _ _ | .mkmap _ => match o.dst with
  | some t => B.contains t
  | none => true
 | .call _ _ (some vis) => vis.all B.contains
 | _ => true
theorem yT.merge {B vis : List Nat} {e e' : xl} {low low' : List Fr} {c c' : Nat} (hv : vis.all B.contains = true) (h : yT B ⟨e, low, c⟩) : yT B ⟨xl.merge vis e e', low', c'⟩ := by
 intro u hu
 have hvu : vis.contains u = false := by
  cases hc : vis.contains u with
  | false => rfl
  | true =>
   have := List.all_eq_true.mp hv u (by simpa using hc)
   rw [hu] at this; cases this
 have hg : (xl.merge vis e e').get u = e.get u := by
  clear h
  induction e with
  | nil => rfl
  | cons p e ih =>
   obtain ⟨t, x⟩ := p
   simp only [xl.merge, List.filterMap_cons] at ih ⊢
   by_cases ht : t = u
   ·subst ht
    simp only [hvu, Bool.false_eq_true, if_false, xl.get, if_true]
   ·cases hc : vis.contains t with
    | false => simp only [Bool.false_eq_true, if_false, xl.get, if_neg ht]; exact ih
    | true =>
     simp only [if_true]
     cases e'.get t with
     | none => simp only [Option.map_none, xl.get, if_neg ht]; exact ih
     | some y => simp only [Option.map_some, xl.get, if_neg ht]; exact ih
 have := h u hu
 simp only [St.free, St.raw] at this ⊢
 rw [hg]; exact this
theorem yT.evalOp {LP : A2} {C : AP} {B : List Nat} {g : Nat} {o : AH} {s s' : St} (ho : yY B o = true) (h : yT B s) (he : evalOp LP C g o.dst o.op s = some s') : yT B s' := by
 obtain ⟨dst, op, guard, root⟩ := o
 simp only at he
 cases op with
 | move x t => cases t with
  | false => exact h.put he
  | true => exact (yT.take x h).put he
 | alloc zs => cases dst with
  | none => cases he
  | some t => simp only [Lf.evalOp, Option.some.injEq] at he; subst he; exact N6 t _ ho h
 | box n x => cases dst with
  | none => cases he
  | some t =>
   simp only [Lf.evalOp] at he
   split at he
   ·split at he
    ·simp only [Option.some.injEq] at he; subst he; exact N6 t _ ho h
    ·cases he
   ·cases he
 | mkmap n => cases dst with
  | none => cases he
  | some t => simp only [Lf.evalOp, Option.some.injEq] at he; subst he; exact N6 t _ ho h
 | mapset n m k v =>
  simp only [Lf.evalOp] at he
  split at he
  ·split at he
   ·rename_i es hes
    split at he
    ·simp only [Option.some.injEq] at he; subst he; exact (yT.take v h).setAt (IW hes)
    ·simp only [Option.some.injEq] at he; subst he; exact (yT.take v h).setAt (IW hes)
   ·cases he
  ·cases he
 | load k p take =>
  simp only [Lf.evalOp] at he
  split at he
  ·split at he
   ·exact h.put he
   ·cases he
  ·split at he
   ·exact h.put he
   ·cases he
  ·split at he
   ·rename_i cs hcs
    split at he
    ·exact (h.setAt (Zc hcs)).put he
    ·split at he
     ·exact h.put he
     ·cases he
   ·cases he
  ·cases he
 | store n p x =>
  simp only [Lf.evalOp] at he
  split at he
  ·split at he
   ·rename_i cs xs hcs _
    split at he
    ·simp only [Option.some.injEq] at he; subst he; exact (yT.take x h).setAt (Zc hcs)
    ·cases he
   ·cases he
  ·cases he
 | call f args vis => cases vis with
  | some vis =>
   simp only [yY] at ho
   simp only [Lf.evalOp] at he
   repeat' split at he
   all_goals first | exact yT.put (yT.merge (e := s.env) (low := s.low) (c := s.ctr) ho h) he | cases he
  | none =>
   simp only [Lf.evalOp] at he
   repeat' split at he
   all_goals first | exact h.put he | cases he
 | append sz q x y =>
  simp only [Lf.evalOp] at he
  split at he
  ·exact (yT.take x h).put he
  ·cases he
 | extract i x t =>
  simp only [Lf.evalOp] at he
  repeat' split at he
  all_goals first | exact h.put he | exact yT.put (Vx _ _ h) he | cases he
 | lookup n m k ok z =>
  simp only [Lf.evalOp] at he
  repeat' split at he
  all_goals first | exact h.put he | cases he
 | mentry n m k z =>
  simp only [Lf.evalOp] at he
  split at he
  ·split at he
   ·rename_i es hes
    split at he
    ·exact (h.setAt (IW hes)).put he
    ·exact (h.setAt (IW hes)).put he
   ·cases he
  ·cases he
 | mstore n m i x =>
  simp only [Lf.evalOp] at he
  split at he
  ·split at he
   ·rename_i es hes
    split at he
    ·simp only [Option.some.injEq] at he; subst he; exact (yT.take x h).setAt (IW hes)
    ·cases he
   ·cases he
  ·cases he
 | bad => cases he
 | mkfn f a b => exact h.put he
 | _ =>
  simp only [Lf.evalOp] at he
  repeat' split at he
  all_goals first | exact h.put he | cases he
theorem yT.evalOps {LP : A2} {C : AP} {B : List Nat} : ∀ {ops : List AH} {g : Nat} {s s' : St}, ops.all (yY B) = true → yT B s → evalOps LP C g ops s = some s' → yT B s'
 | [], _, s, s', _, h, he => by simp only [Lf.evalOps, Option.some.injEq] at he; subst he; exact h
 | o :: r, g, s, s', ho, h, he => by
  simp only [List.all_cons, Bool.and_eq_true] at ho
  simp only [Lf.evalOps] at he
  split at he
  ·rename_i s1 h1
   refine yT.evalOps ho.2 ?_ he
   simp only [Ai] at h1
   split at h1
   ·split at h1
    ·exact yT.evalOp ho.1 h h1
    ·cases h1
   ·split at h1
    ·split at h1
     ·split at h1
      ·exact yT.evalOp ho.1 h h1
      ·cases h1
     ·exact h.put h1
    ·exact h.put h1
    ·cases h1
  ·cases he
section
variable {LP : A2} {ks : List gy} {J : xt → St → Prop} {a b : C0} {s : St}
theorem i9 {B : List Nat} {ops : List AH} {keep : List Nat} {low : List Fr} (l : List (Nat × BL)) (hl : s.low = low) (hf : yT B s) (hB : ops.all (yY B) = true) (hk : l.all (fun p => keep.contains p.1) = true)
  (h : ∃ s1, Lf.evalOps LP (om LP) s.ctr ops (s.tick ops.length) = some s1 ∧ CY l s1 ∧ s1.low = low)
  (h' : ∀ s', Dc l s' → s'.low = low → yT B s' → Ep LP ks .normal s' J) : Run LP ks (.ops ops keep) s J := by
 obtain ⟨s1, he, hr, hl1⟩ := h
 have hf1 : yT B s1 := yT.evalOps hB (show yT B (s.tick ops.length) from hf) he
 obtain ⟨e, lw, c⟩ := s
 exact ⟨.normal, { s1 with env := s1.env.keep keep }, .ops (Ox he), h' _ (CY.keep hk hr).r hl1 (yT.keep keep hf1)⟩
theorem jB {t : Nat} {c : Bool} (hr : s.raw t = some (.v (.d (.bool c)))) (hc : c = true) (h : Run LP ks a s J) : Run LP ks (.cond (.tmp t) a b) s J := by
 subst hc
 refine Run.condT ?_ h
 rw [QZ, KN, hr]; rfl
theorem jT {t : Nat} {c : Bool} (hr : s.raw t = some (.v (.d (.bool c)))) (hc : c = false) (h : Run LP ks b s J) : Run LP ks (.cond (.tmp t) a b) s J := by
 subst hc
 refine Run.condF ?_ h
 rw [QZ, KN, hr]; rfl
end
theorem Run.sub {LP : A2} {ks : List gy} {J : xt → St → Prop} {c : C0} {s : St} {Q : xt → St → Prop} (h : Run LP [] c s Q) (h' : ∀ j s', Q j s' → Ep LP ks j s' J) : Run LP ks c s J := by
 obtain ⟨j, s', h1, h2⟩ := h
 exact ⟨j, s', h1, h' j s' h2⟩
def vJ {σ ρ : Type} (E : σ → St → Prop) (Q : ρ → xt → St → Prop) (out : σ ⊕ ρ) (j : xt) (s : St) : Prop := match out with
 | .inl x => j = .normal ∧ E x s
 | .inr r => j ≠ .normal ∧ Q r j s
theorem mM {LP : A2} {ks : List gy} {c : C0} {σ ρ : Type} {f : σ → Option (σ ⊕ ρ)} {E : σ → St → Prop} {Q : ρ → xt → St → Prop} {J : xt → St → Prop} {r : ρ} {x : σ} {s : St}
  (hs : ∀ x s out, E x s → f x = some out → Run LP [] c s (vJ E Q out)) (he : E x s) (hl : Loop f x = some r) (h' : ∀ j s', Q r j s' → Ep LP ks j s' J) : Run LP ks (.loop c) s J := by
 obtain ⟨n, hn⟩ := Oy.mp hl
 clear hl
 induction n generalizing x s with
 | zero => simp [turns] at hn
 | succ n ih =>
  simp only [turns] at hn
  cases ho : f x with
  | none => rw [ho] at hn; simp at hn
  | some out =>
   rw [ho] at hn
   obtain ⟨j, s', h1, h2⟩ := hs x s out he ho
   cases out with
   | inl x' =>
    obtain ⟨rfl, hx⟩ := h2
    obtain ⟨j', s'', h3, h4⟩ := ih hx hn
    exact ⟨j', s'', .loop h1 h3, h4⟩
   | inr r' =>
    obtain ⟨hj, hq⟩ := h2
    obtain rfl := Option.some.inj hn
    exact ⟨j, s', .loop_jump h1 hj, h' j s' hq⟩
theorem nj {α : Type} [yA α] {s : St} {t : Nat} {x : Sl α} (h : s.raw t = some (.v (.d (yA.enc x)))) : s.raw t = some (.v x.cool.lv) := by rw [h, O3]
def St.merged (s : St) (vis : List Nat) (c : Nat) : St := ⟨xl.merge vis s.env (s.env.keep vis), s.low, c⟩
theorem gf (vis : List Nat) (E : xl) (t : Nat) : ∀ e : xl, (∀ u x, e.get u = some x → E.get u = some x ∨ (∃ y, E.get u = some y)) → (xl.merge vis e (E.keep vis)).get t = if vis.contains t then (match e.get t with | some _ => E.get t | none => none) else e.get t
 | [], _ => by simp [xl.merge, xl.get]
 | (u, x) :: e, h => by
  have hu : ∃ y, xl.get u E = some y := by
   rcases h u x (by simp [xl.get]) with h1 | h1
   ·exact ⟨x, h1⟩
   ·exact h1
  obtain ⟨y, hy⟩ := hu
  have ih := gf vis E t e
  by_cases hut : u = t
  ·subst hut
   cases hc : vis.contains u with
   | false => simp only [xl.merge, List.filterMap_cons, hc, Bool.false_eq_true, if_false, xl.get, if_true]
   | true => simp only [xl.merge, List.filterMap_cons, hc, if_true, Ju, hy, Option.map_some, xl.get]
  ·have ih' : (xl.merge vis e (E.keep vis)).get t = if vis.contains t then (match xl.get t e with | some _ => xl.get t E | none => none) else xl.get t e := by
    apply ih
    intro u' x' hx'
    by_cases hu2 : u = u'
    ·subst hu2; exact .inr ⟨y, hy⟩
    ·exact h u' x' (by simp only [xl.get, if_neg hu2]; exact hx')
   simp only [xl.get, if_neg hut]
   rw [← ih']
   cases hc : vis.contains u with
   | false => simp only [xl.merge, List.filterMap_cons, hc, Bool.false_eq_true, if_false, xl.get, if_neg hut]
   | true => simp only [xl.merge, List.filterMap_cons, hc, if_true, Ju, hy, Option.map_some, xl.get, if_neg hut]
theorem O5 (s : St) (vis : List Nat) (c t : Nat) : (s.merged vis c).raw t = s.raw t := by
 simp only [St.raw, St.merged]
 rw [gf vis s.env t s.env (fun u x h => .inl h)]
 split
 ·cases s.env.get t <;> rfl
 ·rfl
theorem Ql (s : St) (vis : List Nat) (c t : Nat) : (s.merged vis c).free t = s.free t := by
 simp only [St.free, O5]
theorem ZZ (s : St) (vis : List Nat) (c : Nat) : (s.merged vis c).low = s.low := rfl
section
variable (LP : A2) (C : AP)
def Nv (g : Nat) (r : List AH) (s : St) (t : Option Nat) (vis : List Nat) : Option (LV × List Fr × Nat) → Option St
 | some (v, low', c') => match low'.getLast? with
  | some fr => if low'.length = s.low.length + 1 then G0 LP C g r { env := xl.merge vis s.env fr.env, low := low'.dropLast, ctr := c' } t (some v) else none
  | none => none
 | none => none
variable {LP C} (g : Nat) (r : List AH) (s : St) (t : Option Nat) (ro : Option (Option Nat))
theorem Zt (vis : List Nat) (v : LV) (c : Nat) (low2 : List Fr) (h : low2 = s.low) : Nv LP C g r s t vis (some (v, low2 ++ [⟨s.env.keep vis, none⟩], c)) = G0 LP C g r (s.merged vis c) t (some v) := by
 subst h
 simp [Nv, St.merged]
theorem qj (fv : DV) (f : Nat) (a b : List DV) (fo : yV) (args : List yV) (vis : List Nat) (h : s.val LP fo = .d fv) (hf : fv = .fn f a b) :
  evalOps LP C g (⟨t, .call fo args (some vis), none, ro⟩ :: r) s = Nv LP C (g + 1) r s t vis (C.call f (a.map .d ++ args.map (s.val LP) ++ b.map .d) (s.low ++ [⟨s.env.keep vis, none⟩]) s.ctr) := by
 subst hf
 have hr : Ao s.low.length ro none = true := by cases ro <;> rfl
 simp only [evalOps, Ai, yE.addr, Option.map_none, hr, if_true, evalOp, h, target]
 cases C.call f (List.map LV.d a ++ List.map (St.val LP s) args ++ List.map LV.d b) (s.low ++ [⟨s.env.keep vis, none⟩]) s.ctr with
 | none => rfl
 | some p =>
  obtain ⟨v, low', c'⟩ := p
  simp only [Nv]
  cases low'.getLast? with
  | none => rfl
  | some fr =>
   simp only
   by_cases hl : low'.length = s.low.length + 1
   ·simp only [if_pos hl]; rfl
   ·simp only [if_neg hl]
theorem jt (f : Nat) (a b : List DV) (args : List yV) (vis : List Nat) :
  evalOps LP C g (⟨t, .call (.con (.fn f a b)) args (some vis), none, ro⟩ :: r) s = Nv LP C (g + 1) r s t vis (C.call f (a.map .d ++ args.map (s.val LP) ++ b.map .d) (s.low ++ [⟨s.env.keep vis, none⟩]) s.ctr) :=
 qj g r s t ro _ f a b _ args vis rfl rfl
end
theorem ky (LP : A2) (s : St) (n : Nat) : s.val LP (.glob n) = .d (.fptr (LP.globs n) 0) := rfl
def Ut (s : St) (r : Nat × Option (Option Nat)) : Option LV := (DX s r).bind (freeze s.low.length s.env 9)
def yx (rs : List (Nat × Option (Option Nat))) (s : St) : Option LV := match rs.mapM (Ut s) with
 | some [x] => some x
 | some xs => some (LV.norm (.tup xs))
 | none => none
theorem AQ {s : St} {r : Nat × Option (Option Nat)} {v : DV} (h : Ut s r = some (.d v)) : yx [r] s = some (.d v) := by
 simp [yx, h]
theorem Bf {s : St} {r1 r2 : Nat × Option (Option Nat)} {v1 v2 : DV} (h1 : Ut s r1 = some (.d v1)) (h2 : Ut s r2 = some (.d v2)) : yx [r1, r2] s = some (.d (.tup [v1, v2])) := by
 simp [yx, h1, h2, LV.norm, LV.toD, AX]
theorem YC {s : St} {r1 r2 r3 : Nat × Option (Option Nat)} {v1 v2 v3 : DV} (h1 : Ut s r1 = some (.d v1)) (h2 : Ut s r2 = some (.d v2)) (h3 : Ut s r3 = some (.d v3)) : yx [r1, r2, r3] s = some (.d (.tup [v1, v2, v3])) := by
 simp [yx, h1, h2, h3, LV.norm, LV.toD, AX]
theorem AN {s : St} {t : Nat} {v : DV} (h : s.raw t = some (.v (.d v))) : Ut s (t, none) = some (.d v) := by
 simp only [Ut, DX, KN, h]; rfl
theorem cQ {α : Type} [yA α] {s : St} {t : Nat} {x : Sl α} (h : s.raw t = some (.v x.lv)) : Ut s (t, none) = some (.d (yA.enc x)) := by
 simp only [Ut, DX, KN, h, Gp, LS]; cases x <;> rfl
theorem D7 {α : Type} [RU α] {s : St} {t g n : Nat} {x : α} (h : s.raw t = some (.box g ((yA.cells x).map .d))) (hn : yA.n α = n) : Ut s (t, some (some n)) = some (.d (yA.enc x)) := by
 have hl : ((yA.cells x).map LV.d).length = n := by rw [List.length_map, G2.len, hn]
 have hc : ((yA.cells x).map LV.d).map LV.copy = (yA.cells x).map LV.d := by rw [List.map_map]; rfl
 simp only [St.raw] at h
 simp only [Ut, DX, h, hl, if_true, hc, LV.norm, LV.toD, Ry, Option.map_some, Option.bind_some, RU.agg]
 rfl
theorem Wy {s : St} {t g : Nat} {v : DV} (h : s.raw t = some (.box g [.d v])) : Ut s (t, some none) = some (.d v) := by
 simp only [St.raw] at h
 simp [Ut, DX, h, LV.copy, freeze]
theorem Vy {α : Type} [yA α] {s : St} {t g : Nat} {x : Sl α} (h : s.raw t = some (.box g [x.lv])) : Ut s (t, some none) = some (.d (yA.enc x)) := by
 simp only [St.raw] at h
 cases x <;> simp [Ut, DX, h, LV.copy, freeze, Sl.lv, yA.enc, Sl.dv]
def yH (lf : NV) (low : List Fr) (v : LV) (j : xt) (s : St) : Prop := (j = .normal ∨ j = .ret) ∧ s.low = low ∧ yx lf.results s = some v
theorem sc {LP : A2} {n : Nat} {lf : NV} {args : List LV} {low : List Fr} {ctr : Nat} {v : LV} {B : List Nat} (hf : LP.funcs n = some lf) (hl : args.length = lf.nparams)
  (hB : yT B { env := Dj 0 args, low, ctr }) (h : ∀ s, (∀ t, s.raw t = (Dj 0 args).get t) → s.low = low → yT B s → Run LP [] lf.body s (yH lf low v)) : ∃ ctr', qO LP n args low ctr v low ctr' := by
 obtain ⟨j, s', hc, hj, hl', hr⟩ := h { env := Dj 0 args, low, ctr } (fun _ => rfl) rfl hB
 refine ⟨s'.ctr, ?_⟩
 have := qO.func (jmp := j) hf hl hc hj (v := v) hr
 rwa [hl'] at this
theorem W9 (args : List LV) (low : List Fr) (ctr : Nat) (B : List Nat) : yT B { env := Dj 0 args, low, ctr } := by
 intro u _
 have main : ∀ (args : List LV) (k : Nat), St.free { env := Dj k args, low, ctr } u = true := by
  intro args
  induction args with
  | nil => intro k; rfl
  | cons a args ih =>
   intro k
   simp only [Dj]
   rw [pI]
   split
   ·rfl
   ·exact ih (k + 1)
 exact main args 0
def Fin (LP : A2) (n : Nat) (ds : List DV) (v : DV) : Prop := ∀ low ctr, ∃ ctr', qO LP n (ds.map .d) low ctr (.d v) low ctr'
theorem Fin.call {LP : A2} {n : Nat} {ds : List DV} {v : DV} (h : Fin LP n ds v) : Iq (om LP) n ds = some (.d v) := by
 obtain ⟨c, he⟩ := h [] 0
 simp only [Iq, OY.mpr he]
 rfl
theorem IM {LP : A2} {n : Nat} {ds : List DV} {v : DV} (h : Fin LP n ds v) : ∃ c : List Fr → Nat → Nat, ∀ low ctr, (om LP).call n (ds.map LV.d) low ctr = some (.d v, low, c low ctr) := by
 have h' : ∀ (p : List Fr × Nat), ∃ c, (om LP).call n (ds.map LV.d) p.1 p.2 = some (.d v, p.1, c) := fun p => by
  obtain ⟨c, hc⟩ := h p.1 p.2
  exact ⟨c, OY.mpr hc⟩
 exact ⟨fun l c => (h' (l, c)).choose, fun l c => (h' (l, c)).choose_spec⟩
theorem wQ {LP : A2} {n : Nat} {lf : NV} {ds : List DV} {v : DV} (B : List Nat) (hf : LP.funcs n = some lf) (hl : ds.length = lf.nparams)
  (h : ∀ low s, (∀ t, s.raw t = (Dj 0 (ds.map LV.d)).get t) → s.low = low → yT B s → Run LP [] lf.body s (yH lf low (.d v))) : Fin LP n ds v := by
 intro low ctr
 exact sc (B := B) hf (by simpa using hl) (W9 _ _ _ _) (h low)
def IQ (low : List Fr) (j t : Nat) : Option BL := match low[j]? with
 | some fr => fr.env.get t
 | none => none
theorem iS {low : List Fr} {j t : Nat} {x : BL} (h : IQ low j t = some x) : j < low.length := by
 simp only [IQ] at h
 by_cases hj : j < low.length
 ·exact hj
 ·rw [List.getElem?_eq_none (by omega)] at h; cases h
theorem HD {low : List Fr} {fr : Fr} {j t : Nat} {x : BL} (h : IQ low j t = some x) : IQ (low ++ [fr]) j t = some x := by
 have := iS h
 simp only [IQ] at h ⊢
 rw [List.getElem?_append_left this]; exact h
theorem Rf {low : List Fr} {e : xl} {l : Option Lx} {t : Nat} {x : BL} (h : xl.get t e = some x) : IQ (low ++ [⟨e, l⟩]) low.length t = some x := by
 simp only [IQ]
 rw [List.getElem?_append_right (Nat.le_refl _), Nat.sub_self]; exact h
theorem Ea {low : List Fr} {j t g : Nat} {cs : List LV} (h : IQ low j t = some (.box g cs)) (s : St) (k : Option Nat) (off : Nat) (hl : s.low = low) : RJ s k none (.ptr j t g off) = part k off cs := by
 subst hl
 have hj := iS h
 have hc : s.cells j t g = some cs := by
  simp only [St.cells, St.at, if_neg (show ¬ j = s.low.length by omega)]
  simp only [IQ] at h
  cases hx : s.low[j]? with
  | none => rw [hx] at h; cases h
  | some fr => rw [hx] at h; simp only at h ⊢; rw [h]; simp
 simp only [RJ, Ao, if_true, hc]
theorem Wj (s : St) (k : Option Nat) (ro : Option (Option Nat)) (cs : List LV) (off : Nat) : RJ s k ro (.fptr cs off) = part k off cs := by
 have h : Ao s.low.length ro (some (.fptr cs off)) = true := by cases ro <;> rfl
 simp only [RJ, h, if_true]
theorem Bj (k : Option Nat) (off g : Nat) (cs : List LV) : HN k off g (some (.box g cs)) = part k off cs := by simp only [HN, if_true]
theorem DR (x : LV) : part none 0 [x] = some x.copy := rfl
theorem Ih (f : Nat) (a b : List LV) : part none 0 [LV.fn f a b] = some (.fn f a b) := rfl
theorem ol (s : St) (t : Nat) : xl.get t s.env = s.raw t := rfl
theorem get_keep (ks : List Nat) (e : xl) (t : Nat) : xl.get t (xl.keep ks e) = if ks.contains t then xl.get t e else none := Ju ..
def LD (LP : A2) (n : Nat) (args : List LV) (low : List Fr) (v : LV) : Prop := ∀ ctr, ∃ ctr', qO LP n args low ctr v low ctr'
noncomputable def UA (LP : A2) (n : Nat) (args : List LV) (low : List Fr) (ctr : Nat) : Nat := match (om LP).call n args low ctr with
 | some (_, _, c) => c
 | none => 0
theorem LD.om {LP : A2} {n : Nat} {args : List LV} {low : List Fr} {v : LV} (h : LD LP n args low v) (ctr : Nat) : (om LP).call n args low ctr = some (v, low, UA LP n args low ctr) := by
 obtain ⟨c, hc⟩ := h ctr
 have := OY.mpr hc
 simp only [UA, this]
theorem Fin.low {LP : A2} {n : Nat} {ds : List DV} {v : DV} (h : Fin LP n ds v) (low : List Fr) : LD LP n (ds.map .d) low (.d v) := h low
theorem LD.call {LP : A2} {n : Nat} {ds : List DV} {v : DV} (h : LD LP n (ds.map .d) [] (.d v)) : Iq (Lf.om LP) n ds = some (.d v) := by
 obtain ⟨c, he⟩ := h 0
 simp only [Iq, OY.mpr he]
 rfl
theorem uZ {LP : A2} {n : Nat} {lf : NV} {args : List LV} {low : List Fr} {v : LV} (B : List Nat) (hf : LP.funcs n = some lf) (hl : args.length = lf.nparams)
  (h : ∀ s, (∀ t, s.raw t = (Dj 0 args).get t) → s.low = low → yT B s → Run LP [] lf.body s (yH lf low v)) : LD LP n args low v := by
 intro ctr
 exact sc (B := B) hf hl (W9 _ _ _ _) h
def sy (LP : A2) (C : AP) (g : Nat) (r : List AH) (s : St) (t : Option Nat) (ro : Option (Option Nat)) (u : Nat) (args : List yV) (vis : List Nat) : Option (Nat × List LV × List LV) → Option St
 | some (f, a, b) => Nv LP C (g + 1) r s t vis (C.call f (a ++ args.map (s.val LP) ++ b) (s.low ++ [⟨s.env.keep vis, none⟩]) s.ctr)
 | none => evalOps LP C g (⟨t, .call (.tmp u) args (some vis), none, ro⟩ :: r) s
theorem uK (LP : A2) (C : AP) (g : Nat) (r : List AH) (s : St) (t : Option Nat) (ro : Option (Option Nat)) (u : Nat) (args : List yV) (vis : List Nat) (f : Nat) (a b : List LV) :
 sy LP C g r s t ro u args vis (some (f, a, b)) = Nv LP C (g + 1) r s t vis (C.call f (a ++ args.map (s.val LP) ++ b) (s.low ++ [⟨s.env.keep vis, none⟩]) s.ctr) := rfl
theorem rS {LP : A2} {C : AP} (g : Nat) (r : List AH) (s : St) (t : Option Nat) (ro : Option (Option Nat)) (u : Nat) (args : List yV) (vis : List Nat) :
  evalOps LP C g (⟨t, .call (.tmp u) args (some vis), none, ro⟩ :: r) s = sy LP C g r s t ro u args vis (target (s.slot u)) := by
 cases ht : target (s.slot u) with
 | none => rfl
 | some p =>
  obtain ⟨f, a, b⟩ := p
  have hr : Ao s.low.length ro none = true := by cases ro <;> rfl
  have hy : ∀ j g', s.slot u ≠ .yield j g' := by intro j g' e; rw [e] at ht; cases ht
  simp only [evalOps, Ai, yE.addr, Option.map_none, hr, if_true, evalOp, St.val, sy]
  cases hs : s.slot u with
  | yield j g' => exact absurd hs (hy j g')
  | _ =>
   rw [hs] at ht
   simp only [ht]
   cases C.call f (a ++ List.map (s.val LP) args ++ b) (s.low ++ [⟨s.env.keep vis, none⟩]) s.ctr with
   | none => rfl
   | some p =>
    obtain ⟨v, low', c'⟩ := p
    simp only [Nv]
    cases low'.getLast? with
    | none => rfl
    | some fr =>
     simp only
     by_cases hl : low'.length = s.low.length + 1
     ·simp only [if_pos hl]; rfl
     ·simp only [if_neg hl]
def nr (C : AP) (f : Nat) (a b : List DV) : Option (List DV) → Option LV
 | some ds => Iq C f (a ++ ds ++ b)
 | none => none
theorem UM (C : AP) (f : Nat) (a b ds : List DV) : nr C f a b (some ds) = Iq C f (a ++ ds ++ b) := rfl
theorem aM (C : AP) (f : Nat) (a b : List DV) (args : List LV) : i8 C (.d (.fn f a b)) args = nr C f a b (AX args) := by
 simp only [i8, target]
 cases AX args with
 | none => rfl
 | some ds => simp only [Ry]; rfl
theorem aw (f : Nat) (a b : List DV) : target (.d (.fn f a b)) = some (f, a.map .d, b.map .d) := rfl
theorem V5 (f : Nat) (a b : List LV) : target (.fn f a b) = some (f, a, b) := rfl
theorem eG (c : LV) (f : Nat) (x y : List LV) : C4 1 0 [.fn f x y] [c] = some [.fn f x y] := Fb c rfl
theorem aU (c : LV) (f : Nat) (x y : List DV) : C4 1 0 [.d (.fn f x y)] [c] = some [.d (.fn f x y)] := Fb c rfl
theorem X8 (f : Nat) (x y : List LV) : LV.known (.fn f x y) = some [.fn f x y] := rfl
theorem fP (f : Nat) (x y : List DV) : LV.known (.d (.fn f x y)) = some [.d (.fn f x y)] := rfl
theorem XR : LV.known (.d .nilfn) = some [.d .nilfn] := rfl
theorem Of {LP : A2} {C : AP} (g : Nat) (r : List AH) (s : St) (n t g' off u : Nat) (f : Nat) (a b : List LV) (h : s.raw u = some (.v (.fn f a b))) :
  TO LP C g r s n t g' off (.tmp u) (some (.v (.fn f a b))) = iI LP C g r ((Gt n off g' (some [.fn f a b]) (s.raw t)).map fun x => s.upd t x) := by
 show Ir LP C g r s n (.ptr s.low.length t g' off) (.tmp u) = _
 have ht : s.take LP (.tmp u) = (.fn f a b, s) := by
  unfold St.raw at h
  simp only [St.take, h, St.slot, LV.copy]
 simp only [Ir, ht, I1, X8]
 cases hr : s.raw t with
 | none => rfl
 | some z => cases z with
  | box g2 cs =>
   simp only [Gt]
   by_cases hg : g2 = g'
   ·subst hg
    simp only [if_true]
    by_cases hc : [LV.fn f a b].length = n ∧ off + n ≤ cs.length ∧ [LV.fn f a b].all LV.cellOk = true
    ·simp only [if_pos hc, Option.map_some, St.setAt, if_true, St.upd]
    ·simp only [if_neg hc, Option.map_none]
   ·simp only [if_neg hg]; rfl
  | _ => rfl
def ey (f : Nat) (a b : List LV) : Option (List DV) → Option (List DV) → LV
 | some x, some y => .d (.fn f x y)
 | _, _ => .fn f a b
theorem al (f : Nat) (a b : List LV) : LV.norm (.fn f a b) = ey f a b (AX a) (AX b) := by
 simp only [LV.norm, LV.toD, ey]
 cases AX a <;> cases AX b <;> rfl
theorem SS (f : Nat) (a b : List LV) (x y : List DV) : ey f a b (some x) (some y) = .d (.fn f x y) := rfl
theorem RA (f : Nat) (a b : List LV) (y : Option (List DV)) : ey f a b none y = .fn f a b := by cases y <;> rfl
theorem RX (f : Nat) (a b : List LV) (x : Option (List DV)) : ey f a b x none = .fn f a b := by cases x <;> rfl
theorem ju (j t g o : Nat) (r : List LV) : AX (.ptr j t g o :: r) = none := rfl
theorem vy (f : Nat) (a b r : List LV) (h : LV.toD (.fn f a b) = none) : AX (.fn f a b :: r) = none := by simp only [AX, h]
theorem Jo (k t f : Nat) (a b : List LV) : L9 k t (.v (.fn f a b)) = .fn f a b := rfl
theorem eo (k t : Nat) (a : List LV) : L9 k t (.v (.agg a)) = .agg a := rfl
theorem aI (k t o : Nat) (a : List LV) : L9 k t (.v (.fptr a o)) = .fptr a o := rfl
theorem nv (f : Nat) (a b : List LV) : aJ 1 (.fn f a b) = some [.fn f a b] := rfl
theorem jz (f : Nat) (a b : List DV) : aJ 1 (.d (.fn f a b)) = some [.d (.fn f a b)] := rfl
theorem km (s : St) (n : Nat) : (s.tick n).ctr = s.ctr + n := rfl
theorem od (a b : Bool) : vY false (.d (.bool a)) (.d (.bool b)) = some (.d (.bool (a == b))) := rfl
theorem pR (a b : Bool) : vY true (.d (.bool a)) (.d (.bool b)) = some (.d (.bool (a != b))) := rfl
theorem bC (a b : Nat) (l : List Nat) : (a :: l).contains b = if b = a then true else l.contains b := by
 rw [List.contains_cons]
 by_cases h : b = a
 ·subst h; simp
 ·rw [if_neg h, show (b == a) = false from by simpa using h, Bool.false_or]
theorem bN (b : Nat) : ([] : List Nat).contains b = false := rfl
theorem nT {P : St → Prop} (s : St) : (∃ s1, some s = some s1 ∧ P s1) = P s := by simp
theorem yO {B : List Nat} {s : St} (h : yT B s) : ∀ u, B.contains u = false → s.free u = true := h
theorem kC (s : St) (u : Nat) : m0 s (.tmp u) = s.raw u := rfl
theorem lW (s : St) (v : DV) : m0 s (.con v) = some (.v (.d v)) := rfl
theorem uf (x : LV) : (BL.v x).isV = true := rfl
theorem vF (g : Nat) (cs : List LV) : (BL.box g cs).isV = false := rfl
theorem u5 (g n : Nat) (es : List (List Int × LV)) : (BL.mapo g n es).isV = false := rfl
theorem Bd {α : Type} [RU α] (x : α) {n : Nat} (h : yA.n α = n) : Av (some n) 0 (yA.cells x) = some (yA.enc x) := by
 have := G2.len x
 simp only [Av, List.drop_zero]
 rw [List.take_of_length_le (by omega), if_pos (by omega), RU.agg]
def ym (op : BinOp) (a b : Int) : Option Int := match CC (binOp op 0 (.int .i64 a) (.int .i64 b)) with
 | some (.int n) => some n
 | _ => none
theorem qX {op : BinOp} {a b n : Int} (h : ym op a b = some n) : kS op (.d (.int a)) (.d (.int b)) = some (.d (.int n)) := by
 unfold ym at h
 split at h
 ·rename_i m hm
  cases h
  simp only [kS, Q8, hm, Option.map_some]
 ·cases h
def Rb {α : Type} [yA α] : Nat → List α → List (Nat × Nat × LV)
 | _, [] => []
 | i, a :: l => (i, yA.n α, .d (yA.enc a)) :: Rb (i + yA.n α) l
theorem kU {α : Type} [RU α] : ∀ (l : List α) (d r : List LV), r.length = l.length * yA.n α → Cm (Rb d.length l) (d ++ r) = some (d ++ (l.flatMap yA.cells).map LV.d)
 | [], d, r, h => by
  simp only [List.length_nil, Nat.zero_mul, List.length_eq_zero_iff] at h
  subst h
  simp [Rb, Cm]
 | a :: l, d, r, h => by
  have hl : ((yA.cells a).map LV.d).length = yA.n α := by rw [List.length_map, G2.len]
  have hr : yA.n α ≤ r.length := by rw [h, List.length_cons, Nat.add_mul]; omega
  simp only [Rb, Cm, Q5]
  rw [if_pos ⟨hl, by rw [List.length_append]; omega⟩]
  have hs : setCells (d ++ r) d.length ((yA.cells a).map LV.d) = (d ++ (yA.cells a).map LV.d) ++ r.drop (yA.n α) := by
   rw [setCells, List.take_left' rfl, hl, ← List.drop_drop, List.drop_left' rfl]
  have hd : d.length + yA.n α = (d ++ (yA.cells a).map LV.d).length := by rw [List.length_append, hl]
  rw [hs, hd, kU l (d ++ (yA.cells a).map LV.d) (r.drop (yA.n α)) (by rw [List.length_drop, h, List.length_cons, Nat.add_mul]; omega)]
  simp
theorem ft {α : Type} [G2 α] : ∀ (l : List α) (k : Nat) (v : α), l[k]? = some v → ((l.flatMap yA.cells).drop (k * yA.n α)).take (yA.n α) = yA.cells v
 | [], k, v, h => by simp at h
 | a :: l, 0, v, h => by
  simp only [List.getElem?_cons_zero, Option.some.injEq] at h
  subst h
  have := G2.len a
  simp only [List.flatMap_cons, Nat.zero_mul, List.drop_zero]
  rw [List.take_append_of_le_length (by omega), List.take_of_length_le (by omega)]
 | a :: l, k + 1, v, h => by
  simp only [List.getElem?_cons_succ] at h
  have := G2.len a
  rw [← ft l k v h]
  simp only [List.flatMap_cons]
  rw [List.drop_append, List.drop_of_length_le (by rw [this, Nat.add_mul]; omega), List.nil_append, this, Nat.add_mul, Nat.one_mul, Nat.add_sub_cancel]
theorem mH {α β : Type} (f : Nat → Option β) (g : α → β) (l : List α) (h : ∀ (i : Nat) (v : α), l[i]? = some v → f i = some (g v)) : (List.range l.length).mapM f = some (l.map g) := by
 have main : ∀ (k : Nat), k ≤ l.length → (List.range' (l.length - k) k).mapM f = some ((l.drop (l.length - k)).map g) := by
  intro k
  induction k with
  | zero => intro _; simp
  | succ k ih =>
   intro hk
   have hlt : l.length - (k + 1) < l.length := by omega
   rw [List.range'_succ, List.mapM_cons, h _ _ (List.getElem?_eq_getElem hlt)]
   have e : l.length - (k + 1) + 1 = l.length - k := by omega
   rw [e, ih (by omega), List.drop_eq_getElem_cons hlt, e]
   rfl
 have := main l.length (Nat.le_refl _)
 rw [Nat.sub_self] at this
 rw [List.range_eq_range']
 simpa using this
theorem J7 {α : Type} [RU α] (l : List α) {zs : List DV} {n sz : Nat} {ps : List (Nat × Nat × LV)} (hz : zs.length = yA.n α) (hp : (n, sz, ps) = (l.length, yA.n α, Rb 0 l)) : Ve (some sz) zs n ps = some (Sl.hot l).lv := by
 simp only [Prod.mk.injEq] at hp
 obtain ⟨rfl, rfl, rfl⟩ := hp
 have hr : (((List.replicate l.length zs).flatten).map LV.d).length = l.length * yA.n α := by simp [hz]
 have := kU l [] _ hr
 simp only [List.length_nil, List.nil_append] at this
 simp only [Ve, this, jO, if_true, Ry, Option.getD_some]
 rw [mH (fun i => Av (some (yA.n α)) (i * yA.n α) (l.flatMap yA.cells)) yA.enc l]
 ·rfl
 ·intro i v hv
  simp only [Av, ft l i v hv, G2.len, if_true, RU.agg]
structure T3 (α β γ : Type) where
 a : α
 b : β
 c : γ
instance {α β γ : Type} [yA α] [yA β] [yA γ] : yA (T3 α β γ) := ⟨1, fun x => [.tup [yA.enc x.a, yA.enc x.b, yA.enc x.c]], fun x => .tup [yA.enc x.a, yA.enc x.b, yA.enc x.c], fun _ => rfl⟩
theorem nb {α β γ : Type} [yA α] [yA β] [yA γ] (x : T3 α β γ) : qC 0 (some (.v (.d (yA.enc x)))) = some (.d (yA.enc x.a)) ∧ qC 1 (some (.v (.d (yA.enc x)))) = some (.d (yA.enc x.b)) ∧ qC 2 (some (.v (.d (yA.enc x)))) = some (.d (yA.enc x.c)) := ⟨rfl, rfl, rfl⟩
def Mp.get {n : Nat} {α : Type} (m : Mp n α) (k : List Int) : Option α := match m with
 | .nil => none
 | .mk es => (AM k es 0).map (·.2)
theorem Oa {α β : Type} (f : α → β) (k : List Int) : ∀ (es : List (List Int × α)) (i : Nat), AM k (es.map fun p => (p.1, f p.2)) i = (AM k es i).map fun p => (p.1, f p.2)
 | [], _ => rfl
 | (k', v) :: es, i => by
  simp only [List.map_cons, AM]
  by_cases h : k' = k
  ·simp [h]
  ·simp only [if_neg h]; exact Oa f k es (i + 1)
theorem TQ {α : Type} [BU α] {n : Nat} (x : α) (hn : yA.n α = n) (h1 : n ≠ 1) : LV.key n (.d (yA.enc x)) = some (BU.key x) := by
 have hl := G2.len x
 rw [BU.hkey, List.length_map] at hl
 have hi : ∀ l : List Int, DV.ints (l.map .int) = some l := by
  intro l; induction l with
  | nil => rfl
  | cons a l ih => simp [DV.ints, ih]
 rw [RU.agg, BU.hkey]
 simp only [LV.key, hi]
 rw [if_pos ⟨by omega, h1⟩]
theorem Zb {α : Type} [BU α] (x : α) : LV.aggKey (.d (yA.enc x)) = some (BU.key x) := by
 have hi : ∀ l : List Int, DV.ints (l.map .int) = some l := by
  intro l; induction l with
  | nil => rfl
  | cons a l ih => simp [DV.ints, ih]
 rw [RU.agg, BU.hkey]
 simp only [LV.aggKey, hi]
theorem JY {α : Type} [BU α] (x y : α) (n : Nat) (hn : yA.n α = n) : tN false n (.d (yA.enc x)) (.d (yA.enc y)) = some (.d (.bool (decide (BU.key x = BU.key y)))) := by
 have hx := G2.len x
 have hy := G2.len y
 rw [BU.hkey, List.length_map] at hx hy
 simp [tN, Zb, hx, hy, hn]
theorem Ji {α : Type} [BU α] (x y : α) (n : Nat) (hn : yA.n α = n) : tN true n (.d (yA.enc x)) (.d (yA.enc y)) = some (.d (.bool (!decide (BU.key x = BU.key y)))) := by
 have hx := G2.len x
 have hy := G2.len y
 rw [BU.hkey, List.length_map] at hx hy
 simp [tN, Zb, hx, hy, hn]
theorem oJ {n : Nat} {α : Type} [yA α] (m : Mp n α) (k : LV) (key : List Int) (z : DV) (hk : k.key n = some key) : RR n false z (.d (yA.enc m)) k = some (.d (((m.get key).map yA.enc).getD z)) := by
 cases m with
 | nil => simp only [RR, hk, yA.enc, Mp.dv]; rfl
 | mk es =>
  simp only [RR, hk, yA.enc, Mp.dv, if_true, Mp.get, Oa]
  cases AM key es 0 <;> rfl
theorem cx {n : Nat} {α κ : Type} [yA α] [BU κ] (s : St) (ro : Option (Option Nat)) (m : Mp n α) (k : κ) (z : α) (zd : DV) (hn : yA.n κ = n) (h1 : n ≠ 1) (hz : yA.enc z = zd) : qA s n false zd ro (.d (yA.enc m)) (.d (yA.enc k)) = some (.d (yA.enc ((m.get (BU.key k)).getD z))) := by
 have e := oJ m (.d (yA.enc k)) (BU.key k) zd (TQ k hn h1)
 have hr : Ao s.low.length ro (some (.d (yA.enc m))) = true := WO _ _ _
 simp only [qA, hr, if_true]
 rw [e, ← hz]
 cases m.get (BU.key k) <;> rfl
theorem cM (a b : Int) : yq false [.d (.int a), .d (.int b)] = some (.d (.int (min a b))) := by
 simp only [yq, minmax, Qp, Q8, List.foldl_cons, List.foldl_nil, Option.map_some, Bool.false_eq_true, if_false, Option.some.injEq, LV.d.injEq, DV.int.injEq]
 split <;> omega
theorem wZ (a b : Int) : yq true [.d (.int a), .d (.int b)] = some (.d (.int (max a b))) := by
 simp only [yq, minmax, Qp, Q8, List.foldl_cons, List.foldl_nil, Option.map_some, if_true, Option.some.injEq, LV.d.injEq, DV.int.injEq]
 split <;> omega
theorem wS (a : Int) : yy .neg (.d (.int a)) = some (.d (.int (W (0 - a)))) := rfl
section
variable {n : Nat} {α : Type} {x : Ar n α} {i : Int} {v : α}
theorem ii (h : x.ix i = some v) : 0 ≤ i ∧ i.toNat < n := by
 unfold Ar.ix at h
 split at h
 ·rename_i hi
  obtain ⟨hl, _⟩ := List.getElem?_eq_some_iff.mp h
  exact ⟨hi, x.h ▸ hl⟩
 ·cases h
theorem EK (h : x.ix i = some v) (sz j t g o : Nat) : TU sz n (.ptr j t g o) (.d (.int i)) = some (.ptr j t g (o + i.toNat * sz)) := by
 obtain ⟨h1, h2⟩ := ii h
 simp [TU, GQ, h1, h2, Ja]
theorem sF (h : x.ix i = some v) : x.l[i.toNat]? = some v := by
 unfold Ar.ix at h
 split at h
 ·exact h
 ·cases h
variable [G2 α]
theorem kG : ∀ (l : List α) (k : Nat) (v : α), l[k]? = some v → ((l.flatMap yA.cells).drop (k * yA.n α)).take (yA.n α) = yA.cells v
 | [], k, v, h => by simp at h
 | a :: l, 0, v, h => by
  simp only [List.getElem?_cons_zero, Option.some.injEq] at h
  subst h
  have := G2.len a
  simp only [List.flatMap_cons, Nat.zero_mul, List.drop_zero]
  rw [List.take_append_of_le_length (by omega), List.take_of_length_le (by omega)]
 | a :: l, k + 1, v, h => by
  simp only [List.getElem?_cons_succ] at h
  have := G2.len a
  rw [← kG l k v h]
  simp only [List.flatMap_cons]
  rw [List.drop_append, List.drop_of_length_le (by rw [this, Nat.add_mul]; omega), List.nil_append, this, Nat.add_mul, Nat.one_mul, Nat.add_sub_cancel]
theorem hU (h : x.ix i = some v) : ((yA.cells x).drop (i.toNat * yA.n α)).take (yA.n α) = yA.cells v := kG x.l i.toNat v (sF h)
theorem CZ (h : x.ix i = some v) (h1 : yA.n α = 1) (hc : yA.cells v = [yA.enc v]) : Av none (0 + i.toNat * 1) (yA.cells x) = some (yA.enc v) := by
 have := hU h
 rw [h1, hc] at this
 simp only [Av, Nat.zero_add]
 have h2 : ((yA.cells x).drop (i.toNat * 1))[0]? = some (yA.enc v) := by
  have h3 : (((yA.cells x).drop (i.toNat * 1)).take 1)[0]? = some (yA.enc v) := by rw [this]; rfl
  rwa [List.getElem?_take_of_lt (by omega)] at h3
 rw [List.getElem?_drop] at h2
 simpa using h2
theorem kf {α : Type} [RU α] {x : Ar n α} {v : α} (h : x.ix i = some v) {sz : Nat} (hz : yA.n α = sz) : Av (some sz) (0 + i.toNat * sz) (yA.cells x) = some (yA.enc v) := by
 subst hz
 have := hU h
 simp only [Av, Nat.zero_add, this, G2.len, if_true, RU.agg]
theorem vQ (h : x.ix i = some v) (h1 : yA.n α = 1) (hc : yA.cells v = [yA.enc v]) : Ur none 1 n (.d (yA.enc x)) (.d (.int i)) = some (.d (yA.enc v)) := by
 obtain ⟨h2, h3⟩ := ii h
 have e := CZ h h1 hc
 rw [Nat.zero_add] at e
 simp only [Ur, GQ, h2, if_true, h3, Oj, e]
 rfl
theorem vT {α : Type} [RU α] {x : Ar n α} {v : α} (h : x.ix i = some v) {sz : Nat} (hz : yA.n α = sz) : Ur (some sz) sz n (.d (yA.enc x)) (.d (.int i)) = some (.d (yA.enc v)) := by
 obtain ⟨h2, h3⟩ := ii h
 have e := kf h hz
 rw [Nat.zero_add] at e
 simp only [Ur, GQ, h2, if_true, h3, Oj, e]
 rfl
end
theorem sd {n : Nat} {x : Ar n Int} {i v : Int} (h : x.ix i = some v) (y : Int) : C4 1 (0 + i.toNat * 1) [.d (.int y)] ((yA.cells x).map LV.d) = some ((yA.cells (x.put i y)).map LV.d) := by
 obtain ⟨h1, h2⟩ := ii h
 have hl : ((yA.cells x).map LV.d).length = n := by rw [List.length_map, G2.len]; exact Nat.mul_one n
 have hc : yA.cells x = x.l.map DV.int := SG x.l
 have hc2 : yA.cells (x.put i y) = (x.l.set i.toNat y).map DV.int := SG _
 simp only [C4, hl, List.length_cons, List.length_nil, Nat.zero_add, Nat.mul_one]
 rw [if_pos ⟨trivial, by omega, rfl⟩, hc, hc2, List.map_set, List.map_set]
 congr 1
 have hlt : i.toNat < (List.map LV.d (List.map DV.int x.l)).length := by simp [x.h, h2]
 rw [setCells, List.set_eq_take_append_cons_drop, if_pos hlt]
 simp
theorem Ol {LP : A2} {C : AP} {α : Type} [yA α] (g : Nat) (r : List AH) (s : St) (n t g' off u : Nat) (x : Sl α) (h : s.raw u = some (.v x.lv)) (hut : (s.upd u (.v x.spent.lv)).raw t = s.raw t) :
  TO LP C g r s n t g' off (.tmp u) (some (.v x.lv)) = iI LP C g r ((Gt n off g' (some [x.lv]) (s.raw t)).map fun b => (s.upd u (.v x.spent.lv)).upd t b) := by
 cases x with
 | hot xs =>
  show iI LP C g r (Option.map _ (Gt n off g' (some [(Sl.hot xs).lv]) (if u = t then _ else s.raw t))) = _
  rw [Aj] at hut
  by_cases hu : u = t
  ·subst hu
   rw [if_pos rfl] at hut ⊢
   rw [← hut]; rfl
  ·rw [if_neg hu]; rfl
 | nil =>
  rw [show (Sl.nil : Sl α).spent = Sl.nil from rfl, EN s u _ h]; rfl
 | cold xs =>
  rw [show (Sl.cold xs).spent = Sl.cold xs from rfl, EN s u _ h]; rfl
 | full xs =>
  rw [show (Sl.full xs).spent = Sl.full xs from rfl, EN s u _ h]
  have ht : s.take LP (.tmp u) = ((Sl.full xs).lv, s) := by
   unfold St.raw at h
   simp only [St.take, h, Sl.lv, St.slot, LV.copy]
  show Ir LP C g r s n (.ptr s.low.length t g' off) (.tmp u) = _
  simp only [Ir, ht, I1, Vr]
  cases hr : s.raw t with
  | none => rfl
  | some z => cases z with
   | box g2 cs =>
    simp only [Gt]
    by_cases hg : g2 = g'
    ·subst hg
     simp only [if_true]
     by_cases hc : [(Sl.full xs).lv].length = n ∧ off + n ≤ cs.length ∧ [(Sl.full xs).lv].all LV.cellOk = true
     ·simp only [if_pos hc, Option.map_some, St.setAt, if_true, St.upd]
     ·simp only [if_neg hc, Option.map_none]
    ·simp only [if_neg hg]; rfl
   | _ => rfl
theorem uG {α : Type} [yA α] (x : Sl α) (g : Nat) : HN none 0 g (some (.box g [x.lv])) = some x.spent.lv := by cases x <;> simp [HN, part, LV.copy, Sl.lv, Sl.spent]
class GI (α : Type) extends G2 α where
 elv : α → LV
 coolE : α → α
 hd : ∀ x, (elv x).toD = some (yA.enc x)
 hc : ∀ x, (elv x).cool = elv (coolE x)
 hcp : ∀ x, (elv x).copy = elv (coolE x)
 he : ∀ x, yA.enc (coolE x) = yA.enc x
 hf : ∀ k env d x, freeze k env (d + 1) (elv x) = some (.d (yA.enc x))
instance {α : Type} [yA α] : GI (Sl α) := ⟨Sl.lv, Sl.spent, fun x => sV x, fun x => by cases x <;> rfl, fun x => by cases x <;> rfl, fun x => by cases x <;> rfl, fun _ _ _ x => by cases x <;> rfl⟩
instance : GI Int := ⟨fun x => .d (.int x), id, fun _ => rfl, fun _ => rfl, fun _ => rfl, fun _ => rfl, fun _ _ _ _ => rfl⟩
instance : GI Bool := ⟨fun x => .d (.bool x), id, fun _ => rfl, fun _ => rfl, fun _ => rfl, fun _ => rfl, fun _ _ _ _ => rfl⟩
section
variable {α : Type}
def EM (es : List (List Int × α)) (k : List Int) (v : α) : List (List Int × α) := match AM k es 0 with
 | some (i, _) => es.set i (k, v)
 | none => es ++ [(k, v)]
def NJ (z : α) (es : List (List Int × α)) (k : List Int) : α := match AM k es 0 with
 | some (_, v) => v
 | none => z
def G1 (es : List (List Int × α)) (k : List Int) : Int := match AM k es 0 with
 | some (i, _) => i
 | none => es.length
def E9 (z : α) (c : α → α) (es : List (List Int × α)) (k : List Int) : List (List Int × α) := match AM k es 0 with
 | some (i, v) => es.set i (k, c v)
 | none => es ++ [(k, z)]
theorem MF (k : List Int) : ∀ (es : List (List Int × α)) (b i : Nat) (v : α), AM k es b = some (i, v) → b ≤ i ∧ i < b + es.length ∧ es[i - b]? = some (k, v)
 | [], b, i, v, h => by simp [AM] at h
 | (k', x) :: es, b, i, v, h => by
  simp only [AM] at h
  by_cases hk : k' = k
  ·rw [if_pos hk] at h
   simp only [Option.some.injEq, Prod.mk.injEq] at h
   obtain ⟨rfl, rfl⟩ := h
   simp [hk]
  ·rw [if_neg hk] at h
   obtain ⟨h1, h2, h3⟩ := MF k es (b + 1) i v h
   refine ⟨by omega, by simp only [List.length_cons]; omega, ?_⟩
   rw [show i - b = (i - (b + 1)) + 1 by omega, List.getElem?_cons_succ]; exact h3
variable [GI α]
def Ds (es : List (List Int × α)) : List (List Int × LV) := es.map fun p => (p.1, GI.elv p.2)
theorem bP (k : List Int) (es : List (List Int × α)) : AM k (Ds es) 0 = (AM k es 0).map fun p => (p.1, GI.elv p.2) := Oa GI.elv k es 0
theorem qd (es : List (List Int × α)) (k : List Int) (v : α) : (match AM k (Ds es) 0 with
  | some (i, _) => (Ds es).set i (k, GI.elv v)
  | none => Ds es ++ [(k, GI.elv v)]) = Ds (EM es k v) := by
 rw [bP]
 simp only [EM]
 cases AM k es 0 with
 | none => simp [Ds]
 | some p => simp [Ds, List.map_set]
theorem QR (s : St) (t g n : Nat) (es : List (List Int × LV)) (h : s.raw t = some (.mapo g n es)) : s.entries s.low.length t g n = some es := by
 simp only [St.raw] at h
 simp [St.entries, St.at, h]
theorem RF (s : St) (t : Nat) (x : BL) : s.setAt s.low.length t x = s.upd t x := by simp [St.setAt, St.upd]
variable {LP : A2} {C : AP}
def gB (LP : A2) (s : St) (x : yV) (v : LV) (s' : St) : Prop := s.take LP x = (v, s')
theorem jW {s : St} {x : yV} {v : DV} (h : m0 s x = some (.v (.d v))) : gB LP s x (.d v) s := by
 cases x with
 | con w => simp only [m0, Option.some.injEq, BL.v.injEq, LV.d.injEq] at h; subst h; rfl
 | glob n => simp [m0] at h
 | tmp u => simp only [m0, St.raw] at h; simp only [gB, St.take, h, St.slot, LV.copy]
theorem Vi {β : Type} [yA β] {s : St} {u : Nat} {x : Sl β} (h : s.raw u = some (.v x.lv)) : gB LP s (.tmp u) x.lv (s.upd u (.v x.spent.lv)) := by
 have hs : s.slot u = x.spent.lv := by rw [H8, h]; exact LS x _ _
 simp only [gB, St.take]
 have h' := h
 simp only [St.raw] at h
 cases x with
 | hot xs => rw [h]; rfl
 | nil => rw [show (Sl.nil : Sl β).spent = Sl.nil from rfl, EN s u _ h', h]; simp only [hs]; rfl
 | cold xs => rw [show (Sl.cold xs).spent = Sl.cold xs from rfl, EN s u _ h', h]; simp only [hs]; rfl
 | full xs => rw [show (Sl.full xs).spent = Sl.full xs from rfl, EN s u _ h', h]; simp only [hs]; rfl
theorem RH (g : Nat) (r : List AH) (s s1 : St) (tt : Option Nat) (ro : Option (Option Nat)) (n t gm : Nat) (m k v : yV) (key : List Int) (es : List (List Int × α)) (a : α)
  (hm : s.val LP m = .mref s.low.length t gm) (hr : Ao s.low.length ro (some (.mref s.low.length t gm)) = true) (hk : (s.val LP k).key n = some key) (hv : gB LP s v (GI.elv a) s1) (hl : s1.low = s.low) (he : s1.raw t = some (.mapo gm n (Ds es))) :
  evalOps LP C g (⟨tt, .mapset n m k v, none, ro⟩ :: r) s = evalOps LP C (g + 1) r (s1.upd t (.mapo gm n (Ds (EM es key a)))) := by
 have h1 : s1.entries s.low.length t gm n = some (Ds es) := by rw [← hl]; exact QR s1 t gm n _ he
 have h2 : ∀ x, s1.setAt s.low.length t x = s1.upd t x := fun x => by rw [← hl]; exact RF s1 t x
 simp only [evalOps, Ai, yE.addr, Option.map_some, hm, hr, if_true, evalOp, hk]
 unfold gB at hv
 simp only [hv, h1, h2]
 rw [← qd]
 cases AM key (Ds es) 0 with
 | none => rfl
 | some p => obtain ⟨i, x⟩ := p; rfl
theorem SH (g : Nat) (r : List AH) (s : St) (u : Nat) (ro : Option (Option Nat)) (n t gm : Nat) (m k : yV) (zd : DV) (key : List Int) (es : List (List Int × α)) (z : α)
  (hm : s.val LP m = .mref s.low.length t gm) (hr : Ao s.low.length ro (some (.mref s.low.length t gm)) = true) (hk : (s.val LP k).key n = some key) (he : s.raw t = some (.mapo gm n (Ds es))) (hz : GI.elv z = .d zd) (hu : s.free u = true) (hut : u ≠ t) :
  evalOps LP C g (⟨some u, .mentry n m k zd, none, ro⟩ :: r) s = evalOps LP C (g + 1) r ((s.upd t (.mapo gm n (Ds (E9 z GI.coolE es key)))).upd u (.v (.tup [GI.elv (NJ z es key), .d (.int (G1 es key))]))) := by
 have h1 : s.entries s.low.length t gm n = some (Ds es) := QR s t gm n _ he
 have h2 : ∀ x, s.setAt s.low.length t x = s.upd t x := fun x => RF s t x
 have hf : ∀ x, (s.upd t x).free u = true := fun x => by rw [J9, if_neg (Ne.symm hut)]; exact hu
 have hp : ∀ (x : BL) (y : LV), (s.upd t x).put (some u) y = some ((s.upd t x).upd u (.v y)) := by
  intro x y
  have := hf x
  simp only [St.put, St.free, St.raw] at this ⊢
  cases hx : (s.upd t x).env.get u with
  | none => rfl
  | some w => rw [hx] at this; cases w <;> simp_all [BL.isV, St.upd]
 simp only [evalOps, Ai, yE.addr, Option.map_some, hm, hr, if_true, evalOp, hk, h1, h2, bP, NJ, G1, E9]
 cases AM key es 0 with
 | none =>
  simp only [Option.map_none, hp, ← hz]
  congr 3
  ·simp [Ds]
  ·simp [Ds]
 | some p =>
  obtain ⟨i, x⟩ := p
  simp only [Option.map_some, hp, GI.hc]
  congr 3
  simp [Ds, List.map_set]
theorem Qz (g : Nat) (r : List AH) (s s1 : St) (tt : Option Nat) (ro : Option (Option Nat)) (n t gm : Nat) (m i v : yV) (key : List Int) (es : List (List Int × α)) (z a : α)
  (hm : s.val LP m = .mref s.low.length t gm) (hr : Ao s.low.length ro (some (.mref s.low.length t gm)) = true) (hi : s.val LP i = .d (.int (G1 es key))) (hv : gB LP s v (GI.elv a) s1) (hl : s1.low = s.low) (he : s1.raw t = some (.mapo gm n (Ds (E9 z GI.coolE es key)))) :
  evalOps LP C g (⟨tt, .mstore n m i v, none, ro⟩ :: r) s = evalOps LP C (g + 1) r (s1.upd t (.mapo gm n (Ds (EM es key a)))) := by
 have h1 : s1.entries s.low.length t gm n = some (Ds (E9 z GI.coolE es key)) := by rw [← hl]; exact QR s1 t gm n _ he
 have h2 : ∀ x, s1.setAt s.low.length t x = s1.upd t x := fun x => by rw [← hl]; exact RF s1 t x
 have h3 : GQ (.d (.int (G1 es key))) = some (G1 es key).toNat := by
  apply ZX
  simp only [G1]; cases AM key es 0 with
  | none => simp
  | some p => simp
 simp only [evalOps, Ai, yE.addr, Option.map_some, hm, hr, if_true, evalOp, hi, h3]
 unfold gB at hv
 simp only [hv, h1, h2]
 cases hg : AM key es 0 with
 | none =>
  have e1 : (G1 es key).toNat = es.length := by simp [G1, hg]
  have e2 : E9 z GI.coolE es key = es ++ [(key, z)] := by simp [E9, hg]
  have e3 : EM es key a = es ++ [(key, a)] := by simp [EM, hg]
  rw [e1, e2, e3]
  have e4 : (Ds (es ++ [(key, z)]))[es.length]? = some (key, GI.elv z) := by simp [Ds]
  rw [e4]
  simp only
  congr 3
  simp [Ds]
 | some p =>
  obtain ⟨j, x⟩ := p
  obtain ⟨_, hj, hjx⟩ := MF key es 0 j x hg
  have e1 : (G1 es key).toNat = j := by simp [G1, hg]
  have e2 : E9 z GI.coolE es key = es.set j (key, GI.coolE x) := by simp [E9, hg]
  have e3 : EM es key a = es.set j (key, a) := by simp [EM, hg]
  rw [e1, e2, e3]
  have e4 : (Ds (es.set j (key, GI.coolE x)))[j]? = some (key, GI.elv (GI.coolE x)) := by
   simp only [Ds, List.getElem?_map]
   rw [List.getElem?_set_self (by omega)]; rfl
  rw [e4]
  simp only
  congr 3
  simp [Ds, List.map_set, List.set_set]
theorem WS (g : Nat) (r : List AH) (s : St) (tt : Option Nat) (ro : Option (Option Nat)) (n t gm : Nat) (m k v : yV) (key : List Int) (es : List (List Int × α)) (a : α) (vd : DV) (hav : GI.elv a = .d vd)
  (hm : s.val LP m = .mref s.low.length t gm) (hr : Ao s.low.length ro (some (.mref s.low.length t gm)) = true) (hk : (s.val LP k).key n = some key) (hv : m0 s v = some (.v (.d vd))) (he : s.raw t = some (.mapo gm n (Ds es))) :
  evalOps LP C g (⟨tt, .mapset n m k v, none, ro⟩ :: r) s = evalOps LP C (g + 1) r (s.upd t (.mapo gm n (Ds (EM es key a)))) :=
 RH g r s s tt ro n t gm m k v key es a hm hr hk (by rw [hav]; exact jW hv) rfl he
theorem te (g : Nat) (r : List AH) (s : St) (tt : Option Nat) (ro : Option (Option Nat)) (n t gm : Nat) (m i v : yV) (key : List Int) (es : List (List Int × α)) (z a : α) (vd : DV) (hav : GI.elv a = .d vd)
  (hm : s.val LP m = .mref s.low.length t gm) (hr : Ao s.low.length ro (some (.mref s.low.length t gm)) = true) (hi : s.val LP i = .d (.int (G1 es key))) (hv : m0 s v = some (.v (.d vd))) (he : s.raw t = some (.mapo gm n (Ds (E9 z GI.coolE es key)))) :
  evalOps LP C g (⟨tt, .mstore n m i v, none, ro⟩ :: r) s = evalOps LP C (g + 1) r (s.upd t (.mapo gm n (Ds (EM es key a)))) :=
 Qz g r s s tt ro n t gm m i v key es z a hm hr hi (by rw [hav]; exact jW hv) rfl he
theorem bp (g : Nat) (r : List AH) (s : St) (d u : Nat) (ro : Option (Option Nat)) (a : α) (y : LV) (hu : s.raw u = some (.v (.tup [GI.elv a, y]))) (hd : s.free d = true) (hdu : d ≠ u) :
  evalOps LP C g (⟨some d, .extract 0 (.tmp u) true, none, ro⟩ :: r) s = evalOps LP C (g + 1) r ((s.upd u (.v (.tup [GI.elv (GI.coolE a), y]))).upd d (.v (GI.elv a))) := by
 have hr : Ao s.low.length ro none = true := by cases ro <;> rfl
 have hput : ∀ (s2 : St) (v : LV), s2.free d = true → s2.put (some d) v = some (s2.upd d (.v v)) := by
  intro s2 v h
  simp only [St.put, St.free, St.raw] at h ⊢
  cases hx : s2.env.get d with
  | none => rfl
  | some w => rw [hx] at h; cases w <;> simp_all [BL.isV, St.upd]
 by_cases hh : ∃ z xs, GI.elv a = .hot z xs
 ·obtain ⟨z, xs, hx⟩ := hh
  have hc := GI.hc a
  rw [hx] at hc hu
  have hf : (s.upd u (.v (.tup [GI.elv (GI.coolE a), y]))).free d = true := by rw [J9, if_neg (Ne.symm hdu)]; exact hd
  have hp := hput _ (.hot z xs) hf
  have hu' := hu
  simp only [St.raw] at hu
  simp only [evalOps, Ai, yE.addr, Option.map_none, hr, if_true, evalOp, hu, List.getElem?_cons_zero, List.set_cons_zero]
  rw [← hc] at hp ⊢
  rw [hx]
  have hp' : ({ s with env := s.env.set u (.v (.tup [.d (.slice z xs), y])) } : St).put (some d) (.hot z xs) = some ((s.upd u (.v (.tup [LV.cool (.hot z xs), y]))).upd d (.v (.hot z xs))) := hp
  rw [hp']
 ·have hcp : (GI.elv a).copy = GI.elv a := by
   cases ha : GI.elv a with
   | hot z xs => exact absurd ⟨z, xs, ha⟩ hh
   | tup cs => have h2 := GI.hcp a; rw [ha] at h2; have h3 := GI.hc a; rw [ha] at h3; rw [← h3] at h2; exact h2
   | _ => rfl
  have he : GI.elv (GI.coolE a) = GI.elv a := by rw [← GI.hcp]; exact hcp
  have hp := hput s (GI.elv a) hd
  rw [he, EN s u _ hu]
  simp only [St.raw] at hu
  simp only [evalOps, Ai, yE.addr, Option.map_none, hr, if_true, evalOp, hu]
  simp only [List.getElem?_cons_zero]
  cases ha : GI.elv a with
  | hot z xs => exact absurd ⟨z, xs, ha⟩ hh
  | _ => rw [ha] at hcp hp; simp only [hcp, hp]
theorem R9 (g : Nat) (r : List AH) (s : St) (d : Option Nat) (u : Nat) (ro : Option (Option Nat)) (x : LV) (y : DV) (hu : s.raw u = some (.v (.tup [x, .d y]))) :
  evalOps LP C g (⟨d, .extract 1 (.tmp u) true, none, ro⟩ :: r) s = G0 LP C (g + 1) r s d (some (.d y)) := by
 have hr : Ao s.low.length ro none = true := by cases ro <;> rfl
 simp only [St.raw] at hu
 simp only [evalOps, Ai, yE.addr, Option.map_none, hr, if_true, evalOp, hu, List.getElem?_cons_succ, List.getElem?_cons_zero, LV.copy, G0]
 cases s.put d (.d y) <;> rfl
theorem kY {β : Type} [yA β] (x : Sl β) : GI.elv x = x.lv := rfl
theorem j0 {β : Type} [yA β] (x : Sl β) : GI.coolE x = x.spent := rfl
theorem oS (x : Int) : GI.elv x = .d (.int x) := rfl
theorem gP (x : Int) : GI.coolE x = x := rfl
theorem j8 (x : Bool) : GI.elv x = .d (.bool x) := rfl
theorem Z6 (x : Bool) : GI.coolE x = x := rfl
theorem O8 : Ds ([] : List (List Int × α)) = [] := rfl
theorem kj (k : Nat) (env : xl) (d : Nat) (v : DV) : freeze k env (d + 1) (.d v) = some (.d v) := rfl
theorem Z0 (k : Nat) (env : xl) (d tm gm n : Nat) (es : List (List Int × α)) (h : env.get tm = some (.mapo gm n (Ds es))) : freeze k env (d + 2) (.mref k tm gm) = some (.d (.fmap n (es.map fun p => (p.1, yA.enc p.2)))) := by
 have hm : ∀ es : List (List Int × α), (Ds es).mapM (fun p => ((freeze k env (d + 1) p.2).bind LV.toD).map fun v => (p.1, v)) = some (es.map fun p => (p.1, yA.enc p.2)) := by
  intro es
  induction es with
  | nil => rfl
  | cons p es ih =>
   simp only [Ds] at ih
   simp only [Ds, List.map_cons, List.mapM_cons, GI.hf, Option.bind_some, LV.toD, Option.map_some, ih]
   rfl
 show (if k = k then match env.get tm with
   | some (.mapo g' n es) => if g' = gm then (es.mapM fun p => ((freeze k env (d + 1) p.2).bind LV.toD).map fun v => (p.1, v)).map fun es => LV.d (.fmap n es) else none
   | _ => none
  else some (.mref k tm gm)) = _
 simp only [if_true, h, hm, Option.map_some]
theorem eD {β : Type} [yA β] (g : Nat) (r : List AH) (s : St) (tt : Option Nat) (ro : Option (Option Nat)) (n t gm u : Nat) (m i : yV) (key : List Int) (es : List (List Int × Sl β)) (z a : Sl β)
  (hm : s.val LP m = .mref s.low.length t gm) (hr : Ao s.low.length ro (some (.mref s.low.length t gm)) = true) (hi : s.val LP i = .d (.int (G1 es key))) (hv : s.raw u = some (.v a.lv)) (hut : u ≠ t) (he : s.raw t = some (.mapo gm n (Ds (E9 z Sl.spent es key)))) :
  evalOps LP C g (⟨tt, .mstore n m i (.tmp u), none, ro⟩ :: r) s = evalOps LP C (g + 1) r ((s.upd u (.v a.spent.lv)).upd t (.mapo gm n (Ds (EM es key a)))) :=
 Qz g r s _ tt ro n t gm m i (.tmp u) key es z a hm hr hi (Vi hv) rfl (by rw [Aj, if_neg hut]; exact he)
theorem ru {β : Type} [yA β] (g : Nat) (r : List AH) (s : St) (tt : Option Nat) (ro : Option (Option Nat)) (n t gm u : Nat) (m k : yV) (key : List Int) (es : List (List Int × Sl β)) (a : Sl β)
  (hm : s.val LP m = .mref s.low.length t gm) (hr : Ao s.low.length ro (some (.mref s.low.length t gm)) = true) (hk : (s.val LP k).key n = some key) (hv : s.raw u = some (.v a.lv)) (hut : u ≠ t) (he : s.raw t = some (.mapo gm n (Ds es))) :
  evalOps LP C g (⟨tt, .mapset n m k (.tmp u), none, ro⟩ :: r) s = evalOps LP C (g + 1) r ((s.upd u (.v a.spent.lv)).upd t (.mapo gm n (Ds (EM es key a)))) :=
 RH g r s _ tt ro n t gm m k (.tmp u) key es a hm hr hk (Vi hv) rfl (by rw [Aj, if_neg hut]; exact he)
end
theorem wH (k : Nat) (env : xl) (d : Nat) (v : DV) : freeze k env (d + 1) (.d v) = some (.d v) := rfl
def wh (f : Nat) : Option (List LV) → Option (List LV) → Option LV
 | some a, some b => some (LV.norm (.fn f a b))
 | _, _ => none
theorem vI (k : Nat) (env : xl) (d f : Nat) (a b : List LV) : freeze k env (d + 1) (.fn f a b) = wh f (a.mapM (freeze k env d)) (b.mapM (freeze k env d)) := by
 simp only [freeze, wh]; cases a.mapM (freeze k env d) <;> cases b.mapM (freeze k env d) <;> rfl
theorem fE (f : Nat) (a b : List LV) : wh f (some a) (some b) = some (LV.norm (.fn f a b)) := rfl
def yF (off : Nat) : Option (List LV) → Option LV
 | some cs => some (LV.norm (.fptr cs off))
 | none => none
theorem ge {k t g : Nat} {env : xl} {cs : List LV} (h : env.get t = some (.box g cs)) (d off : Nat) : freeze k env (d + 1) (.ptr k t g off) = yF off (cs.mapM (freeze k env d)) := by
 simp only [freeze, if_true, h]; cases cs.mapM (freeze k env d) <;> rfl
theorem ke (off : Nat) (cs : List LV) : yF off (some cs) = some (LV.norm (.fptr cs off)) := rfl
theorem wi {k j : Nat} (h : j < k) (t g : Nat) (env : xl) (d off : Nat) : freeze k env (d + 1) (.ptr j t g off) = some (.ptr j t g off) := by
 simp only [freeze, if_neg (show ¬ j = k by omega)]
theorem rO {k j : Nat} (h : j < k) (t g : Nat) (env : xl) (d : Nat) : freeze k env (d + 1) (.mref j t g) = some (.mref j t g) := by
 simp only [freeze, if_neg (show ¬ j = k by omega)]
theorem Rj (j t g : Nat) (r : List LV) : AX (.mref j t g :: r) = none := rfl
theorem pM {s : St} {r : Nat × Option (Option Nat)} {v : LV} (h : Ut s r = some v) : yx [r] s = some v := by
 simp [yx, h]
theorem eS : yA.enc Fv.nil = .nilfn := rfl
theorem kt (k : Nat) (env : xl) (d : Nat) (ds : List DV) : (ds.map LV.d).mapM (freeze k env (d + 1)) = some (ds.map LV.d) := by
 induction ds with
 | nil => rfl
 | cons v ds ih => simp only [List.map_cons, List.mapM_cons, wH, ih]; rfl
theorem eJ (ds : List DV) (off : Nat) : LV.norm (.fptr (ds.map LV.d) off) = .d (.fptr ds off) := by
 simp only [LV.norm, LV.toD, Ry, Option.map_some]
theorem aL (v : DV) (off : Nat) : LV.norm (.fptr [.d v] off) = .d (.fptr [v] off) := rfl
theorem O4 (cs : List LV) (off : Nat) (r : List LV) (h : AX cs = none) : AX (.fptr cs off :: r) = none := by simp only [AX, LV.toD, h, Option.map_none]
theorem aN (cs : List LV) (off : Nat) (h : AX cs = none) : LV.norm (.fptr cs off) = .fptr cs off := by simp only [LV.norm, LV.toD, h, Option.map_none]
def ut : Option LV → Option (List LV) → Option (List LV)
 | some y, some ys => some (y :: ys)
 | _, _ => none
theorem Zp (y : LV) (ys : List LV) : ut (some y) (some ys) = some (y :: ys) := rfl
theorem sR (f : LV → Option LV) : ([] : List LV).mapM f = some [] := rfl
theorem sT (f : LV → Option LV) (x : LV) (r : List LV) : (x :: r).mapM f = ut (f x) (r.mapM f) := by
 simp only [List.mapM_cons]; cases f x with
 | none => rfl
 | some y => cases r.mapM f <;> rfl
theorem eP (s : St) (t : Nat) : Ut s (t, none) = freeze s.low.length s.env 9 (tB s.low.length t (s.raw t)) := by
 simp only [Ut, DX, KN]; rfl
theorem Uw {n : Nat} {xs cs : List LV} (h1 : cs.length = n) (h2 : xs.length = n) (h3 : xs.all LV.cellOk = true) : C4 n 0 xs cs = some xs := by
 simp only [C4, h1, h2, h3, Nat.zero_add, Nat.le_refl, and_self, if_true]
 simp [setCells, h1, h2]
theorem TR (cs : List LV) : LV.known (.agg cs) = some cs := rfl
theorem Hk {LP : A2} {C : AP} (g : Nat) (r : List AH) (s : St) (n t g' off u : Nat) (xs : List LV) (h : s.raw u = some (.v (.agg xs))) :
  TO LP C g r s n t g' off (.tmp u) (some (.v (.agg xs))) = iI LP C g r ((Gt n off g' (some xs) (s.raw t)).map fun x => s.upd t x) := by
 show Ir LP C g r s n (.ptr s.low.length t g' off) (.tmp u) = _
 have ht : s.take LP (.tmp u) = (.agg xs, s) := by
  unfold St.raw at h
  simp only [St.take, h, St.slot, LV.copy]
 simp only [Ir, ht, I1, TR]
 cases hr : s.raw t with
 | none => rfl
 | some z => cases z with
  | box g2 cs =>
   simp only [Gt]
   by_cases hg : g2 = g'
   ·subst hg
    simp only [if_true]
    by_cases hc : xs.length = n ∧ off + n ≤ cs.length ∧ xs.all LV.cellOk = true
    ·simp only [if_pos hc, Option.map_some, St.setAt, if_true, St.upd]
    ·simp only [if_neg hc, Option.map_none]
   ·simp only [if_neg hg]; rfl
  | _ => rfl
def II {σ α : Type} (LP : A2) (R : σ → List Fr → Prop) (j g : Nat) (A : α → List LV) (yf : α → σ → Option (Bool × σ)) : Prop :=
 ∀ x s b s', yf x s = some (b, s') → ∀ low, R s low → ∀ (above : List Fr) (ctr : Nat), ∃ low' c, R s' low' ∧ (om LP).round j g (A x) (low ++ above) ctr = some (b, low' ++ above, c)
def pu {σ : Type} (R : σ → List Fr → Prop) (fr : Fr) (s : σ) (low1 : List Fr) : Prop := ∃ low, low1 = low ++ [fr] ∧ R s low
def kM {σ : Type} (LP : A2) (n : Nat) (args : List LV) (R : σ → List Fr → Prop) (low : List Fr) (v : LV) (s' : σ) : Prop := ∀ ctr, ∃ low' ctr', R s' low' ∧ qO LP n args low ctr v low' ctr'
section
variable {σ α : Type} {LP : A2} {R : σ → List Fr → Prop} {N : Nat}
theorem II.push {j g : Nat} {A : α → List LV} {yf : α → σ → Option (Bool × σ)} (h : II LP R j g A yf) (fr : Fr) : II LP (pu R fr) j g A yf := by
 rintro x s b s' hx low1 ⟨low, rfl, hR⟩ above ctr
 obtain ⟨low', c, hR', he⟩ := h x s b s' hx low hR ([fr] ++ above) ctr
 exact ⟨low' ++ [fr], c, ⟨low', rfl, hR'⟩, by simpa using he⟩
theorem RB (hN : ∀ s low, R s low → low.length = N) (fr : Fr) : ∀ s low1, pu R fr s low1 → low1.length = N + 1 := by
 rintro s low1 ⟨low, rfl, hR⟩
 simp [hN s low hR]
theorem Gv {j t : Nat} {x : BL} (h : ∀ s low, R s low → IQ low j t = some x) (fr : Fr) : ∀ s low1, pu R fr s low1 → IQ low1 j t = some x := by
 rintro s low1 ⟨low, rfl, hR⟩
 exact HD (h s low hR)
theorem Kp {N : Nat} {low : List Fr} {e : xl} {l : Option Lx} {t : Nat} {x : BL} (hN : low.length = N) (h : xl.get t e = some x) : IQ (low ++ [⟨e, l⟩]) N t = some x := by
 rw [← hN]
 exact Rf h
theorem K3 (hN : ∀ s low, R s low → low.length = N) {e : xl} {l : Option Lx} {t : Nat} {x : BL} (h : xl.get t e = some x) : ∀ s low1, pu R ⟨e, l⟩ s low1 → IQ low1 N t = some x := by
 rintro s low1 ⟨low, rfl, hR⟩
 rw [← hN s low hR]
 exact Rf h
noncomputable def Zk (LP : A2) (n : Nat) (args : List LV) (low : List Fr) (ctr : Nat) : List Fr := match (om LP).call n args low ctr with
 | some (_, l, _) => l.dropLast
 | none => []
noncomputable def pZ (LP : A2) (j g : Nat) (args : List LV) (low : List Fr) (ctr : Nat) : List Fr := match (om LP).round j g args low ctr with
 | some (_, l, _) => l.dropLast
 | none => []
noncomputable def u0 (LP : A2) (j g : Nat) (args : List LV) (low : List Fr) (ctr : Nat) : Nat := match (om LP).round j g args low ctr with
 | some (_, _, c) => c
 | none => 0
theorem kM.om {n : Nat} {args : List LV} {low : List Fr} {fr : Fr} {v : LV} {s' : σ} (hN : ∀ s low, R s low → low.length = N) {s : σ} (hR : R s low) (h : kM LP n args (pu R fr) (low ++ [fr]) v s') (ctr : Nat) :
  (Lf.om LP).call n args (low ++ [fr]) ctr = some (v, Zk LP n args (low ++ [fr]) ctr ++ [fr], UA LP n args (low ++ [fr]) ctr) ∧ R s' (Zk LP n args (low ++ [fr]) ctr) ∧ (Zk LP n args (low ++ [fr]) ctr).length = low.length := by
 obtain ⟨low1, c, ⟨low', rfl, hR'⟩, he⟩ := h ctr
 have := OY.mpr he
 have e1 : Zk LP n args (low ++ [fr]) ctr = low' := by simp [Zk, this]
 have e2 : UA LP n args (low ++ [fr]) ctr = c := by simp [UA, this]
 rw [e1, e2]
 exact ⟨this, hR', by rw [hN _ _ hR, hN _ _ hR']⟩
theorem II.om {j g : Nat} {A : α → List LV} {yf : α → σ → Option (Bool × σ)} (h : II LP R j g A yf) (hN : ∀ s low, R s low → low.length = N) {x : α} {s s' : σ} {b : Bool} {low : List Fr} (hR : R s low) (hx : yf x s = some (b, s')) (fr : Fr) (ctr : Nat) :
  (Lf.om LP).round j g (A x) (low ++ [fr]) ctr = some (b, pZ LP j g (A x) (low ++ [fr]) ctr ++ [fr], u0 LP j g (A x) (low ++ [fr]) ctr) ∧ R s' (pZ LP j g (A x) (low ++ [fr]) ctr) ∧ (pZ LP j g (A x) (low ++ [fr]) ctr).length = low.length := by
 obtain ⟨low', c, hR', he⟩ := h x s b s' hx low hR [fr] ctr
 have e1 : pZ LP j g (A x) (low ++ [fr]) ctr = low' := by simp [pZ, he]
 have e2 : u0 LP j g (A x) (low ++ [fr]) ctr = c := by simp [u0, he]
 rw [e1, e2]
 exact ⟨he, hR', by rw [hN _ _ hR, hN _ _ hR']⟩
def vf (lf : NV) (R : σ → List Fr → Prop) (s' : σ) (v : LV) (j : xt) (s : St) : Prop := (j = .normal ∨ j = .ret) ∧ R s' s.low ∧ yx lf.results s = some v
theorem ug {n : Nat} {lf : NV} {args : List LV} {low : List Fr} {v : LV} {s' : σ} (B : List Nat) (hf : LP.funcs n = some lf) (hl : args.length = lf.nparams)
  (h : ∀ s, (∀ t, s.raw t = (Dj 0 args).get t) → s.low = low → yT B s → Run LP [] lf.body s (vf lf R s' v)) : kM LP n args R low v s' := by
 intro ctr
 obtain ⟨j, s1, hc, hj, hR, hr⟩ := h { env := Dj 0 args, low, ctr } (fun _ => rfl) rfl (W9 _ _ _ _)
 exact ⟨s1.low, s1.ctr, hR, qO.func (jmp := j) hf hl hc hj (v := v) hr⟩
end
def St.mergedL (s : St) (vis : List Nat) (low : List Fr) (c : Nat) : St := ⟨xl.merge vis s.env (s.env.keep vis), low, c⟩
theorem Vz (s : St) (vis : List Nat) (low : List Fr) (c t : Nat) : (s.mergedL vis low c).raw t = s.raw t := O5 s vis c t
theorem Up (s : St) (vis : List Nat) (low : List Fr) (c t : Nat) : (s.mergedL vis low c).free t = s.free t := Ql s vis c t
theorem WZ (s : St) (vis : List Nat) (low : List Fr) (c : Nat) : (s.mergedL vis low c).low = low := rfl
theorem eu {LP : A2} {C : AP} (g : Nat) (r : List AH) (s : St) (t : Option Nat) (vis : List Nat) (v : LV) (c : Nat) (low2 : List Fr) (h : low2.length = s.low.length) :
  Nv LP C g r s t vis (some (v, low2 ++ [⟨s.env.keep vis, none⟩], c)) = G0 LP C g r (s.mergedL vis low2 c) t (some v) := by
 simp [Nv, St.mergedL, h]
theorem j6 (j g : Nat) : (LV.yield j g).copy = .yield j g := rfl
theorem nf (f : Nat) (a b : List LV) : (LV.fn f a b).copy = .fn f a b := rfl
theorem jr (j t g o : Nat) : (LV.ptr j t g o).copy = .ptr j t g o := rfl
theorem dz (j t g : Nat) : (LV.mref j t g).copy = .mref j t g := rfl
theorem kb (a : List LV) : (LV.agg a).copy = .agg a := rfl
theorem eB (a : List LV) (o : Nat) : (LV.fptr a o).copy = .fptr a o := rfl
theorem Uk (off : Nat) (cs : List LV) (o : Nat) : Ja off (.fptr cs o) = some (.fptr cs (o + off)) := rfl
theorem rk (j g : Nat) : aJ 1 (.yield j g) = some [.yield j g] := rfl
theorem ng (k t j g : Nat) : L9 k t (.v (.yield j g)) = .yield j g := rfl
def yv : Option (Bool × List Fr × Nat) → Option (LV × List Fr × Nat)
 | some (b, l, c) => some (.d (.bool b), l, c)
 | none => none
theorem pY (b : Bool) (l : List Fr) (c : Nat) : yv (some (b, l, c)) = some (.d (.bool b), l, c) := rfl
def m8 (LP : A2) (C : AP) (g : Nat) (r : List AH) (s : St) (t : Option Nat) (ro : Option (Option Nat)) (u : Nat) (args : List yV) (vis : List Nat) : LV → Option St
 | .d (.fn f a b) => Nv LP C (g + 1) r s t vis (C.call f (a.map .d ++ args.map (s.val LP) ++ b.map .d) (s.low ++ [⟨s.env.keep vis, none⟩]) s.ctr)
 | .fn f a b => Nv LP C (g + 1) r s t vis (C.call f (a ++ args.map (s.val LP) ++ b) (s.low ++ [⟨s.env.keep vis, none⟩]) s.ctr)
 | .yield j g' => Nv LP C (g + 1) r s t vis (yv (C.round j g' (args.map (s.val LP)) (s.low ++ [⟨s.env.keep vis, none⟩]) s.ctr))
 | _ => evalOps LP C g (⟨t, .call (.tmp u) args (some vis), none, ro⟩ :: r) s
theorem jq {LP : A2} {C : AP} (g : Nat) (r : List AH) (s : St) (t : Option Nat) (ro : Option (Option Nat)) (u : Nat) (args : List yV) (vis : List Nat) :
  evalOps LP C g (⟨t, .call (.tmp u) args (some vis), none, ro⟩ :: r) s = m8 LP C g r s t ro u args vis (s.slot u) := by
 have key : ∀ x, s.slot u = x → evalOps LP C g (⟨t, .call (.tmp u) args (some vis), none, ro⟩ :: r) s = m8 LP C g r s t ro u args vis x := by
  intro x hx
  have h1 := rS (LP := LP) (C := C) g r s t ro u args vis
  cases x with
  | d v => cases v with
   | fn f a b => rw [h1, hx]; rfl
   | _ => rfl
  | fn f a b => rw [h1, hx]; rfl
  | yield j g' =>
   have hr : Ao s.low.length ro none = true := by cases ro <;> rfl
   simp only [evalOps, Ai, yE.addr, Option.map_none, hr, if_true, evalOp, St.val, hx, m8]
   cases C.round j g' (args.map (s.val LP)) (s.low ++ [⟨s.env.keep vis, none⟩]) s.ctr with
   | none => rfl
   | some p =>
    obtain ⟨b, low', c'⟩ := p
    simp only [Nv, yv]
    cases low'.getLast? with
    | none => rfl
    | some fr =>
     simp only
     by_cases hl : low'.length = s.low.length + 1
     ·simp only [if_pos hl]; rfl
     ·simp only [if_neg hl]
  | _ => rfl
 exact key _ rfl
theorem pL (LP : A2) (C : AP) (g : Nat) (r : List AH) (s : St) (t : Option Nat) (ro : Option (Option Nat)) (u : Nat) (args : List yV) (vis : List Nat) (f : Nat) (a b : List DV) :
 m8 LP C g r s t ro u args vis (.d (.fn f a b)) = Nv LP C (g + 1) r s t vis (C.call f (a.map .d ++ args.map (s.val LP) ++ b.map .d) (s.low ++ [⟨s.env.keep vis, none⟩]) s.ctr) := rfl
theorem kN (LP : A2) (C : AP) (g : Nat) (r : List AH) (s : St) (t : Option Nat) (ro : Option (Option Nat)) (u : Nat) (args : List yV) (vis : List Nat) (f : Nat) (a b : List LV) :
 m8 LP C g r s t ro u args vis (.fn f a b) = Nv LP C (g + 1) r s t vis (C.call f (a ++ args.map (s.val LP) ++ b) (s.low ++ [⟨s.env.keep vis, none⟩]) s.ctr) := rfl
theorem oh (LP : A2) (C : AP) (g : Nat) (r : List AH) (s : St) (t : Option Nat) (ro : Option (Option Nat)) (u : Nat) (args : List yV) (vis : List Nat) (j g' : Nat) :
 m8 LP C g r s t ro u args vis (.yield j g') = Nv LP C (g + 1) r s t vis (yv (C.round j g' (args.map (s.val LP)) (s.low ++ [⟨s.env.keep vis, none⟩]) s.ctr)) := rfl
theorem qB {LP : A2} {ks : List gy} {J : xt → St → Prop} {s : St} {B : List Nat} {ops : List AH} {keep : List Nat} {low : List Fr} {Q : List Fr → Prop} (l : List (Nat × BL)) (hl : s.low = low) (hf : yT B s) (hB : ops.all (yY B) = true) (hk : l.all (fun p => keep.contains p.1) = true)
  (h : ∃ s1, Lf.evalOps LP (om LP) s.ctr ops (s.tick ops.length) = some s1 ∧ CY l s1 ∧ Q s1.low)
  (h' : ∀ s', Dc l s' → Q s'.low → yT B s' → Ep LP ks .normal s' J) : Run LP ks (.ops ops keep) s J := by
 obtain ⟨s1, he, hr, hl1⟩ := h
 have hf1 : yT B s1 := yT.evalOps hB (show yT B (s.tick ops.length) from hf) he
 obtain ⟨e, lw, c⟩ := s
 exact ⟨.normal, { s1 with env := s1.env.keep keep }, .ops (Ox he), h' _ (CY.keep hk hr).r hl1 (yT.keep keep hf1)⟩
theorem pE (s : St) : yx [] s = some (.d (.tup [])) := rfl
def Dh (low : List Fr) (j t : Nat) (x : BL) : List Fr := low.modify j fun fr => { fr with env := fr.env.set t x }
def St.setL (s : St) (j t : Nat) (x : BL) : St := { s with low := Dh s.low j t x }
theorem JA (low : List Fr) (j t : Nat) (x : BL) : (Dh low j t x).length = low.length := by simp [Dh]
theorem Oq (s : St) (j t u : Nat) (x : BL) : (s.setL j t x).raw u = s.raw u := rfl
theorem LM (s : St) (j t u : Nat) (x : BL) : (s.setL j t x).free u = s.free u := rfl
theorem Oz (s : St) (j t : Nat) (x : BL) : (s.setL j t x).low = Dh s.low j t x := rfl
theorem K0 (s : St) (j t : Nat) (x : BL) (h : j < s.low.length) : s.setAt j t x = s.setL j t x := by
 simp only [St.setAt, if_neg (show ¬ j = s.low.length by omega)]; rfl
theorem Hm {low : List Fr} {j t t' : Nat} {x : BL} (h : j < low.length) : IQ (Dh low j t x) j t' = if t = t' then some x else IQ low j t' := by
 simp only [IQ, Dh, List.getElem?_modify_eq]
 rw [List.getElem?_eq_getElem h]
 exact JL ..
theorem LX {s : St} {j t g : Nat} (h : j < s.low.length) : s.cells j t g = match IQ s.low j t with
  | some (.box g' cs) => if g' = g then some cs else none
  | _ => none := by
 simp only [St.cells, St.at, if_neg (show ¬ j = s.low.length by omega), IQ]
 rw [List.getElem?_eq_getElem h]
 simp only
 cases (s.low[j]).env.get t with
 | none => rfl
 | some x => cases x <;> rfl
theorem Kw (s : St) (k : Option Nat) (j t g off : Nat) (h : j < s.low.length) : RJ s k none (.ptr j t g off) = HN k off g (IQ s.low j t) := by
 simp only [RJ, Ao, if_true, LX h]
 cases IQ s.low j t with
 | none => rfl
 | some x => cases x with
  | box g' cs =>
   simp only [HN]
   by_cases hg : g' = g
   ·simp only [if_pos hg]
   ·simp only [if_neg hg]
  | _ => rfl
theorem Ht {low : List Fr} {j t : Nat} {x : BL} (h : IQ low j t = some x) : Dh low j t x = low := by
 have hj := iS h
 simp only [IQ] at h
 rw [List.getElem?_eq_getElem hj] at h
 simp only [Dh]
 apply List.ext_getElem?
 intro i
 rw [List.getElem?_modify]
 by_cases hi : j = i
 ·subst hi
  rw [List.getElem?_eq_getElem hj]
  have h2 := OF _ _ _ h
  show some (if j = j then { low[j] with env := low[j].env.set t x } else low[j]) = some low[j]
  rw [if_pos rfl, h2]
 ·simp [hi]
section
variable {LP : A2} {C : AP}
theorem Xq (g : Nat) (r : List AH) (s : St) (n j t g' off : Nat) (x : yV) (v : DV) (hj : j < s.low.length) (hx : m0 s x = some (.v (.d v))) :
  Ir LP C g r s n (.ptr j t g' off) x = iI LP C g r ((Gt n off g' (LV.known (.d v)) (IQ s.low j t)).map fun b => s.setL j t b) := by
 have ht : s.take LP x = (.d v, s) := jW hx
 simp only [Ir, ht, LX hj]
 cases IQ s.low j t with
 | none => rfl
 | some z => cases z with
  | box g2 cs =>
   simp only [Gt]
   by_cases hg : g2 = g'
   ·subst hg
    simp only [if_true]
    cases LV.known (.d v) with
    | none => rfl
    | some xs =>
     simp only
     by_cases hc : xs.length = n ∧ off + n ≤ cs.length ∧ xs.all LV.cellOk = true
     ·simp only [if_pos hc, Option.map_some, K0 s j t _ hj]
     ·simp only [if_neg hc]; rfl
   ·simp only [if_neg hg]
    cases LV.known (.d v) <;> rfl
  | _ => rfl
theorem UR {β : Type} [yA β] (g : Nat) (r : List AH) (s : St) (n j t g' off u : Nat) (x : Sl β) (hj : j < s.low.length) (hx : s.raw u = some (.v x.lv)) :
  Ir LP C g r s n (.ptr j t g' off) (.tmp u) = iI LP C g r ((Gt n off g' (some [x.lv]) (IQ s.low j t)).map fun b => (s.upd u (.v x.spent.lv)).setL j t b) := by
 have ht : s.take LP (.tmp u) = (x.lv, s.upd u (.v x.spent.lv)) := Vi hx
 have hj2 : j < (s.upd u (.v x.spent.lv)).low.length := hj
 simp only [Ir, ht, LX hj2, Vr, bR]
 cases IQ s.low j t with
 | none => rfl
 | some z => cases z with
  | box g2 cs =>
   simp only [Gt]
   by_cases hg : g2 = g'
   ·subst hg
    simp only [if_true]
    by_cases hc : [x.lv].length = n ∧ off + n ≤ cs.length ∧ [x.lv].all LV.cellOk = true
    ·simp only [if_pos hc, Option.map_some, K0 _ j t _ hj2]
    ·simp only [if_neg hc]; rfl
   ·simp only [if_neg hg]; rfl
  | _ => rfl
theorem FW {s : St} {d : Nat} (v : LV) (h : s.free d = true) : s.put (some d) v = some (s.upd d (.v v)) := by
 simp only [St.put, St.free, St.raw] at h ⊢
 cases hx : s.env.get d with
 | none => rfl
 | some w => rw [hx] at h; cases w <;> simp_all [BL.isV, St.upd]
theorem eL {β : Type} [yA β] (g : Nat) (r : List AH) (s : St) (d : Nat) (p : yV) (j t gb : Nat) (x : Sl β) (hp : s.val LP p = .ptr j t gb 0) (hj : j < s.low.length) (hb : IQ s.low j t = some (.box gb [x.lv])) (hd : s.free d = true) :
  evalOps LP C g (⟨some d, .load none p true, none, none⟩ :: r) s = evalOps LP C (g + 1) r ((s.setL j t (.box gb [x.spent.lv])).upd d (.v x.lv)) := by
 have hc : s.cells j t gb = some [x.lv] := by rw [LX hj, hb]; simp
 have hr : Ao s.low.length none (some (LV.ptr j t gb 0)) = true := rfl
 have hd2 : ∀ y, (s.setL j t y).free d = true := fun y => hd
 simp only [evalOps, Ai, yE.addr, Option.map_some, hp, hr, if_true, evalOp, hc]
 cases x with
 | hot xs =>
  have e : (Sl.hot xs).lv = LV.hot (yA.n β) (xs.map yA.enc) := rfl
  have e2 : (Sl.hot xs).spent.lv = LV.d (.slice (yA.n β) (xs.map yA.enc)) := rfl
  simp only [e, e2, List.getElem?_cons_zero, List.set_cons_zero, K0 s j t _ hj, FW _ (hd2 _)]
 | nil =>
  rw [show (Sl.nil : Sl β).spent = Sl.nil from rfl]
  have e3 : s.setL j t (.box gb [(Sl.nil : Sl β).lv]) = s := by simp only [St.setL, Ht hb]
  rw [e3]
  simp only [Sl.lv, List.getElem?_cons_zero, part, Option.map_some, LV.copy, FW _ hd]
 | cold xs =>
  rw [show (Sl.cold xs).spent = Sl.cold xs from rfl]
  have e3 : s.setL j t (.box gb [(Sl.cold xs).lv]) = s := by simp only [St.setL, Ht hb]
  rw [e3]
  simp only [Sl.lv, List.getElem?_cons_zero, part, Option.map_some, LV.copy, FW _ hd]
 | full xs =>
  rw [show (Sl.full xs).spent = Sl.full xs from rfl]
  have e3 : s.setL j t (.box gb [(Sl.full xs).lv]) = s := by simp only [St.setL, Ht hb]
  rw [e3]
  simp only [Sl.lv, List.getElem?_cons_zero, part, Option.map_some, LV.copy, FW _ hd]
theorem Wn {s : St} {j t g n : Nat} {es : List (List Int × LV)} (hj : j < s.low.length) (h : IQ s.low j t = some (.mapo g n es)) : s.entries j t g n = some es := by
 simp only [IQ] at h
 simp only [St.entries, St.at, if_neg (show ¬ j = s.low.length by omega)]
 rw [List.getElem?_eq_getElem hj] at h ⊢
 simp only at h ⊢
 rw [h]; simp
variable {α : Type} [GI α]
theorem cH (g : Nat) (r : List AH) (s : St) (u : Nat) (n j t gm : Nat) (m k : yV) (zd : DV) (key : List Int) (es : List (List Int × α)) (z : α)
  (hm : s.val LP m = .mref j t gm) (hj : j < s.low.length) (hk : (s.val LP k).key n = some key) (he : IQ s.low j t = some (.mapo gm n (Ds es))) (hz : GI.elv z = .d zd) (hu : s.free u = true) :
  evalOps LP C g (⟨some u, .mentry n m k zd, none, none⟩ :: r) s = evalOps LP C (g + 1) r ((s.setL j t (.mapo gm n (Ds (E9 z GI.coolE es key)))).upd u (.v (.tup [GI.elv (NJ z es key), .d (.int (G1 es key))]))) := by
 have h1 : s.entries j t gm n = some (Ds es) := Wn hj he
 have hp : ∀ (x : BL) (y : LV), (s.setL j t x).put (some u) y = some ((s.setL j t x).upd u (.v y)) := fun x y => FW y hu
 have hr : Ao s.low.length none (some (LV.mref j t gm)) = true := rfl
 simp only [evalOps, Ai, yE.addr, Option.map_some, hm, hr, if_true, evalOp, hk, h1, K0 s j t _ hj, bP, NJ, G1, E9]
 cases AM key es 0 with
 | none =>
  simp only [Option.map_none, hp, ← hz]
  congr 3
  ·simp [Ds]
  ·simp [Ds]
 | some p =>
  obtain ⟨i, x⟩ := p
  simp only [Option.map_some, hp, GI.hc]
  congr 3
  simp [Ds, List.map_set]
theorem bO {β : Type} [yA β] (g : Nat) (r : List AH) (s : St) (n j t gm u : Nat) (m i : yV) (key : List Int) (es : List (List Int × Sl β)) (z a : Sl β)
  (hm : s.val LP m = .mref j t gm) (hj : j < s.low.length) (hi : s.val LP i = .d (.int (G1 es key))) (hv : s.raw u = some (.v a.lv)) (he : IQ s.low j t = some (.mapo gm n (Ds (E9 z Sl.spent es key)))) :
  evalOps LP C g (⟨none, .mstore n m i (.tmp u), none, none⟩ :: r) s = evalOps LP C (g + 1) r ((s.upd u (.v a.spent.lv)).setL j t (.mapo gm n (Ds (EM es key a)))) := by
 have hj2 : j < (s.upd u (.v a.spent.lv)).low.length := hj
 have h1 : (s.upd u (.v a.spent.lv)).entries j t gm n = some (Ds (E9 z Sl.spent es key)) := Wn hj2 he
 have hg : s.take LP (.tmp u) = (a.lv, s.upd u (.v a.spent.lv)) := Vi hv
 have hr : Ao s.low.length none (some (LV.mref j t gm)) = true := rfl
 have h3 : GQ (.d (.int (G1 es key))) = some (G1 es key).toNat := by
  apply ZX
  simp only [G1]; cases AM key es 0 with
  | none => simp
  | some p => simp
 simp only [evalOps, Ai, yE.addr, Option.map_some, hm, hr, if_true, evalOp, hi, h3, hg, h1, K0 _ j t _ hj2]
 cases hq : AM key es 0 with
 | none =>
  have e1 : (G1 es key).toNat = es.length := by simp [G1, hq]
  have e2 : E9 z Sl.spent es key = es ++ [(key, z)] := by simp [E9, hq]
  have e3 : EM es key a = es ++ [(key, a)] := by simp [EM, hq]
  rw [e1, e2, e3]
  have e4 : (Ds (es ++ [(key, z)]))[es.length]? = some (key, GI.elv z) := by simp [Ds]
  rw [e4]
  simp only
  congr 3
  simp [Ds, kY]
 | some p =>
  obtain ⟨q, x⟩ := p
  obtain ⟨_, hjx, _⟩ := MF key es 0 q x hq
  have e1 : (G1 es key).toNat = q := by simp [G1, hq]
  have e2 : E9 z Sl.spent es key = es.set q (key, x.spent) := by simp [E9, hq]
  have e3 : EM es key a = es.set q (key, a) := by simp [EM, hq]
  rw [e1, e2, e3]
  have e4 : (Ds (es.set q (key, x.spent)))[q]? = some (key, GI.elv x.spent) := by
   simp only [Ds, List.getElem?_map]
   rw [List.getElem?_set_self (by omega)]; rfl
  rw [e4]
  simp only
  congr 3
  simp [Ds, List.map_set, List.set_set, kY]
end
def Jp (B : List Nat) (base above : List Fr) (lp : Lx) (l : List (Nat × BL)) (low : List Fr) : Prop :=
 ∃ e, low = base ++ [⟨e, some lp⟩] ++ above ∧ yT B ⟨e, base, 0⟩ ∧ CY l ⟨e, base, 0⟩
def sZ (j : Nat) : List (Nat × BL) → List Fr → Prop
 | [], _ => True
 | (t, x) :: l, low => IQ low j t = some x ∧ sZ j l low
section
variable {B : List Nat} {base above : List Fr} {lp : Lx} {l l' : List (Nat × BL)} {low : List Fr}
theorem Jp.len (h : Jp B base above lp l low) : low.length = base.length + 1 + above.length := by
 obtain ⟨e, rfl, _⟩ := h; simp; omega
theorem rF (base above : List Fr) (e : xl) (o : Option Lx) (t : Nat) : IQ (base ++ [⟨e, o⟩] ++ above) base.length t = e.get t := by
 simp [IQ]
theorem Jp.all (h : Jp B base above lp l low) : sZ base.length l low := by
 obtain ⟨e, rfl, _, hr⟩ := h
 induction l with
 | nil => trivial
 | cons p l ih => obtain ⟨t, x⟩ := p; exact ⟨by rw [rF]; exact hr.1, ih hr.2⟩
theorem TS (f : Fr → Fr) (x : Fr) (b : List Fr) : ∀ a : List Fr, (a ++ [x] ++ b).modify a.length f = a ++ [f x] ++ b
 | [] => rfl
 | y :: a => by
  have := TS f x b a
  show (y :: (a ++ [x] ++ b)).modify (a.length + 1) f = _
  rw [List.modify_succ_cons, this]; rfl
theorem mh (base above : List Fr) (e : xl) (o : Option Lx) (t : Nat) (x : BL) : Dh (base ++ [⟨e, o⟩] ++ above) base.length t x = base ++ [⟨e.set t x, o⟩] ++ above := TS _ _ _ _
theorem Jp.set (h : Jp B base above lp l low) (t : Nat) (x : BL) (hB : B.contains t = true) (hl : ∀ s, CY l s → CY l' (s.upd t x)) : Jp B base above lp l' (Dh low base.length t x) := by
 obtain ⟨e, rfl, hn, hr⟩ := h
 exact ⟨e.set t x, mh .., N6 (s := ⟨e, base, 0⟩) t x hB hn, hl _ hr⟩
theorem W2 (h : Jp B base above lp l low) (hl : ∀ s, CY l s → CY l' s) : Jp B base above lp l' low := by
 obtain ⟨e, rfl, hn, hr⟩ := h
 exact ⟨e, rfl, hn, hl _ hr⟩
end
def onL {α τ X : Type} (F : α → τ → Option (Bool × (τ ⊕ X))) (x : α) : τ ⊕ X → Option (Bool × (τ ⊕ X))
 | .inl t => F x t
 | .inr _ => none
def UY {τ X : Type} (g : Nat) (params : List Nat) (assign body : C0) (jm : X → xt) : τ ⊕ X → Lx
 | .inl _ => { gen := g, params, assign, body, ready := true, pending := none }
 | .inr x => { gen := g, params, assign, body, ready := false, pending := some (jm x) }
def qL {τ X : Type} (B : List Nat) (base : List Fr) (g : Nat) (params : List Nat) (assign body : C0) (jm : X → xt) (l : τ ⊕ X → List (Nat × BL)) (st : τ ⊕ X) (low : List Fr) : Prop :=
 Jp B base [] (UY g params assign body jm st) (l st) low
theorem QO (base above : List Fr) (e : xl) (r : Lx) (a : Bool) (p : Option xt) : Ik (base ++ [⟨e, some r⟩] ++ above) base.length a p = base ++ [⟨e, some { r with ready := a, pending := p }⟩] ++ above := by
 exact TS _ _ _ _
theorem TX (base above : List Fr) (e : xl) (r : Lx) : PW (base ++ [⟨e, some r⟩] ++ above) base.length r.gen = some r := by
 simp [PW]
def oz {τ X : Type} (B : List Nat) (base above : List Fr) (lp : Lx) (jm : X → xt) (l : τ ⊕ X → List (Nat × BL)) (out : Bool × (τ ⊕ X)) (j : xt) (s : St) : Prop := match out.2 with
 | .inl t => out.1 = true ∧ j = .normal ∧ Jp B base above lp (l (.inl t)) s.low
 | .inr x => out.1 = false ∧ j = jm x ∧ jm x ≠ .normal ∧ Jp B base above lp (l (.inr x)) s.low
theorem YR {LP : A2} {α τ X : Type} {B : List Nat} {base : List Fr} {g : Nat} {params : List Nat} {assign body : C0} {jm : X → xt} {l : τ ⊕ X → List (Nat × BL)} {A : α → List LV} {F : α → τ → Option (Bool × (τ ⊕ X))}
  (hA : ∀ x, (A x).length = params.length)
  (h : ∀ (x : α) (t : τ) (out : Bool × (τ ⊕ X)), F x t = some out → ∀ (e : xl) (above : List Fr) (ctr : Nat), yT B ⟨e, base, 0⟩ → CY (l (.inl t)) ⟨e, base, 0⟩ →
   Run LP [] assign ⟨FK params (A x) (e.map fun p => (p.1, Eu base.length p.1 p.2)), base ++ [⟨e, some { gen := g, params, assign, body, ready := true, pending := none }⟩] ++ above, ctr⟩ fun j s1 => j = .normal ∧
    s1.low = base ++ [⟨e, some { gen := g, params, assign, body, ready := true, pending := none }⟩] ++ above ∧
    Run LP [] body { s1 with low := base ++ [⟨e, some { gen := g, params, assign, body, ready := false, pending := none }⟩] ++ above } (oz B base above { gen := g, params, assign, body, ready := false, pending := none } jm l out)) :
  II LP (qL B base g params assign body jm l) base.length g A (onL F) := by
 rintro x st b st' hF low1 ⟨e, rfl, hn, hr⟩ above ctr
 cases st with
 | inr y => simp [onL] at hF
 | inl t =>
  simp only [onL] at hF
  obtain ⟨j1, s1, hc1, rfl, hl1, j2, s2, hc2, he2⟩ := h x t (b, st') hF e above ctr hn hr
  obtain ⟨n1, hn1⟩ := hc1
  obtain ⟨n2, hn2⟩ := hc2
  have a1 := Df LP (FG LP (Nat.le_max_left n1 n2)) (Nat.le_max_left n1 n2) hn1
  have a2 := Df LP (FG LP (Nat.le_max_right n1 n2)) (Nat.le_max_right n1 n2) hn2
  have hsl : Ik s1.low base.length false none = base ++ [⟨e, some { gen := g, params, assign, body, ready := false, pending := none }⟩] ++ above := by
   rw [hl1]; exact QO ..
  have hla : PW s1.low base.length g = some { gen := g, params, assign, body, ready := true, pending := none } := by
   rw [hl1]; exact TX base above e { gen := g, params, assign, body, ready := true, pending := none }
  have hlow : (base ++ [⟨e, some (UY g params assign body jm (.inl t : τ ⊕ X))⟩] ++ [] ++ above)[base.length]? = some ⟨e, some (UY g params assign body jm (.inl t : τ ⊕ X))⟩ := by simp
  have key : ∀ r, endRound base.length g j2 s2 = some r → (Lf.om LP).round base.length g (A x) (base ++ [⟨e, some (UY g params assign body jm (.inl t : τ ⊕ X))⟩] ++ [] ++ above) ctr = some r := by
   intro r hr2
   refine kp.mpr ⟨max n1 n2 + 1, ?_⟩
   simp only [GN, JB, hlow]
   have hcond : (UY g params assign body jm (.inl t : τ ⊕ X)).gen = g ∧ (UY g params assign body jm (.inl t : τ ⊕ X)).ready = true ∧ (UY g params assign body jm (.inl t : τ ⊕ X)).pending = none ∧ (A x).length = (UY g params assign body jm (.inl t : τ ⊕ X)).params.length := ⟨rfl, rfl, rfl, hA x⟩
   rw [if_pos hcond]
   simp only [List.append_nil]
   have a1' : Ad LP (GN LP (max n1 n2)) (max n1 n2) (UY g params assign body jm (.inl t : τ ⊕ X)).assign { env := FK (UY g params assign body jm (.inl t : τ ⊕ X)).params (A x) (List.map (fun p => (p.1, Eu base.length p.1 p.2)) e), low := base ++ [⟨e, some (UY g params assign body jm (.inl t : τ ⊕ X))⟩] ++ above, ctr } = some (.normal, s1) := a1
   rw [a1']
   simp only [hla, and_self, if_true, hsl]
   have a2' : Ad LP (GN LP (max n1 n2)) (max n1 n2) (UY g params assign body jm (.inl t : τ ⊕ X)).body { s1 with low := base ++ [⟨e, some { gen := g, params, assign, body, ready := false, pending := none }⟩] ++ above } = some (j2, s2) := a2
   rw [a2']
   exact hr2
  cases st' with
  | inl t' =>
   obtain ⟨hb, rfl, e', hl2, hn2, hr2⟩ := he2
   simp only at hb
   subst hb
   refine ⟨base ++ [⟨e', some (UY g params assign body jm (.inl t' : τ ⊕ X))⟩] ++ [], s2.ctr, ⟨e', rfl, hn2, hr2⟩, key _ ?_⟩
   have : PW s2.low base.length g = some { gen := g, params, assign, body, ready := false, pending := none } := by
    rw [hl2]; exact TX base above e' { gen := g, params, assign, body, ready := false, pending := none }
   rw [hl2] at this
   simp only [endRound, hl2, this, QO, List.append_nil, UY]
  | inr y =>
   obtain ⟨hb, hj, hne, e', hl2, hn2, hr2⟩ := he2
   simp only at hb
   subst hb
   refine ⟨base ++ [⟨e', some (UY g params assign body jm (.inr y : τ ⊕ X))⟩] ++ [], s2.ctr, ⟨e', rfl, hn2, hr2⟩, key _ ?_⟩
   have : PW s2.low base.length g = some { gen := g, params, assign, body, ready := false, pending := none } := by
    rw [hl2]; exact TX base above e' { gen := g, params, assign, body, ready := false, pending := none }
   rw [hj]
   rw [hl2] at this
   simp only [endRound, hl2, this, QO, List.append_nil]
   cases hjm : jm y with
   | normal => exact absurd hjm hne
   | exit i => simp only [UY, hjm]
   | ret => simp only [UY, hjm]
theorem Run.rng {LP : A2} {ks : List gy} {J : xt → St → Prop} {τ X : Type} {B : List Nat} {base : List Fr} {f : yV} {params : List Nat} {assign body : C0} {s : St} {n : Nat} {a b : List LV} {jm : X → xt} {l : τ ⊕ X → List (Nat × BL)} {t0 : τ} {st' : τ ⊕ X} {v : LV}
  (hl : s.low = base) (hf : yT B s) (ht : target (s.val LP f) = some (n, a, b)) (hr : CY (l (.inl t0)) s)
  (hp : ∀ g low1, qL B base g params assign body jm l (.inl t0) low1 → kM LP n (a ++ [.yield base.length g] ++ b) (qL B base g params assign body jm l) low1 v st')
  (hJ : ∀ s', s'.low = base → yT B s' → CY (l st') s' → Ep LP ks (match st' with | .inl _ => .normal | .inr x => jm x) s' J) : Run LP ks (.rng f params assign body) s J := by
 have raw_eq : ∀ (s2 : St) (e : xl) (c : Nat), s2.env = e → ∀ l, CY l s2 → CY l ⟨e, base, c⟩ := by
  intro s2 e c he l
  induction l with
  | nil => intro _; trivial
  | cons p l ih => obtain ⟨t, x⟩ := p; subst he; exact fun h => ⟨h.1, ih h.2⟩
 have nob_eq : ∀ (s2 : St) (e : xl) (c : Nat), s2.env = e → yT B s2 → yT B ⟨e, base, c⟩ := by
  intro s2 e c he h u hu; subst he; exact h u hu
 have hc : qL B base s.ctr params assign body jm l (.inl t0) (base ++ [⟨s.env, some (UY s.ctr params assign body jm (.inl t0 : τ ⊕ X))⟩] ++ []) :=
  ⟨s.env, rfl, nob_eq s _ _ rfl hf, raw_eq s _ _ rfl _ hr⟩
 obtain ⟨low', ctr', ⟨e', hl', hn', hr'⟩, m, hm⟩ := hp s.ctr _ hc (s.ctr + 1)
 simp only [List.append_nil] at hl' hm
 subst hl'
 have hlast : (base ++ [(⟨e', some (UY s.ctr params assign body jm st')⟩ : Fr)]).getLast? = some ⟨e', some (UY s.ctr params assign body jm st')⟩ := by simp
 refine ⟨(UY s.ctr params assign body jm st').pending.getD .normal, ⟨e', base, ctr'⟩, ⟨m, ?_⟩, ?_⟩
 ·simp only [Ad, ht, hl]
  have hm' : (GN LP m).call n (a ++ [LV.yield base.length s.ctr] ++ b) (base ++ [{ env := s.env, loop := some { gen := s.ctr, params, assign, body, ready := true, pending := none } }]) (s.ctr + 1) = some (v, base ++ [⟨e', some (UY s.ctr params assign body jm st')⟩], ctr') := hm
  rw [hm']
  simp only [hlast]
  have hcond : (base ++ [(⟨e', some (UY s.ctr params assign body jm st')⟩ : Fr)]).length = base.length + 1 ∧ (UY s.ctr params assign body jm st').gen = s.ctr ∧ ((UY s.ctr params assign body jm st').ready = true ∨ (UY s.ctr params assign body jm st').pending.isSome = true) := by
   refine ⟨by simp, by cases st' <;> rfl, ?_⟩
   cases st' with
   | inl _ => exact .inl rfl
   | inr _ => exact .inr rfl
  rw [if_pos hcond]
  simp
 ·have := hJ ⟨e', base, ctr'⟩ rfl (nob_eq ⟨e', base, 0⟩ e' ctr' rfl hn') (raw_eq ⟨e', base, 0⟩ e' ctr' rfl _ hr')
  cases st' with
  | inl _ => exact this
  | inr _ => exact this
theorem NA (j : Nat) (t : Nat) : ∀ e : xl, xl.get t (e.map fun p => (p.1, Eu j p.1 p.2)) = (xl.get t e).map (Eu j t)
 | [] => rfl
 | (u, x) :: e => by
  simp only [List.map_cons, xl.get]
  by_cases h : u = t
  ·subst h; simp
  ·simp only [if_neg h]; exact NA j t e
theorem Jj : ∀ (ps : List Nat) (xs : List LV) (e : xl) (t : Nat), ps.contains t = false → xl.get t (FK ps xs e) = xl.get t e
 | [], _, _, _, _ => by simp [FK]
 | _ :: _, [], _, _, _ => by simp [FK]
 | p :: ps, x :: xs, e, t, h => by
  rw [List.contains_cons, Bool.or_eq_false_iff] at h
  simp only [FK]
  rw [Jj ps xs _ t h.2, JL, if_neg]
  intro hp; subst hp; simp at h
theorem V1 : ∀ (ps : List Nat) (xs : List LV) (e : xl) (low : List Fr) (c : Nat), ps.Nodup → CY ((ps.zip xs).map fun p => (p.1, BL.v p.2)) ⟨FK ps xs e, low, c⟩
 | [], _, _, _, _, _ => trivial
 | _ :: _, [], _, _, _, _ => trivial
 | p :: ps, x :: xs, e, low, c, h => by
  rw [List.nodup_cons] at h
  refine ⟨?_, V1 ps xs (e.set p (.v x)) low c h.2⟩
  show xl.get p (FK ps xs (e.set p (.v x))) = some (.v x)
  rw [Jj ps xs _ p (by simpa using h.1), JL, if_pos rfl]
theorem UH : ∀ (ps : List Nat) (xs : List LV) (e : xl) (low : List Fr) (c t : Nat), (∀ u, St.free ⟨e, low, c⟩ u = true) → St.free ⟨FK ps xs e, low, c⟩ t = true
 | [], _, _, _, _, t, h => h t
 | _ :: _, [], _, _, _, t, h => h t
 | p :: ps, x :: xs, e, low, c, t, h => by
  refine UH ps xs (e.set p (.v x)) low c t ?_
  intro u
  have := J9 ⟨e, low, c⟩ p u (.v x)
  show St.free (St.upd ⟨e, low, c⟩ p (.v x)) u = true
  rw [this]
  by_cases hu : p = u
  ·rw [if_pos hu]; rfl
  ·rw [if_neg hu]; exact h u
theorem mW (j : Nat) (e : xl) (low : List Fr) (c u : Nat) : St.free ⟨e.map fun p => (p.1, Eu j p.1 p.2), low, c⟩ u = true := by
 simp only [St.free, St.raw, NA]
 cases xl.get u e with
 | none => rfl
 | some x => cases x <;> rfl
theorem yT.congr {B : List Nat} {s s' : St} (h : yT B s) (hr : ∀ u, s'.raw u = s.raw u) : yT B s' := by
 intro u hu
 have := h u hu
 simp only [St.free] at this ⊢
 rw [hr]; exact this
theorem KQ {LP : A2} {α τ X : Type} {B : List Nat} {base : List Fr} {g : Nat} {params : List Nat} {assign body : C0} {jm : X → xt} {l : τ ⊕ X → List (Nat × BL)} {A : α → List LV} {F : α → τ → Option (Bool × (τ ⊕ X))}
  (hnd : params.Nodup) (hA : ∀ x, (A x).length = params.length)
  (h : ∀ (x : α) (t : τ) (out : Bool × (τ ⊕ X)), F x t = some out → ∀ (e : xl) (above low0 low : List Fr) (lp : Lx) (s : St),
   (∀ u y, params.contains u = false → xl.get u e = some y → s.raw u = some (Eu base.length u y)) → CY ((params.zip (A x)).map fun p => (p.1, BL.v p.2)) s → CY (l (.inl t)) ⟨e, base, 0⟩ → Jp B base above lp (l (.inl t)) low → s.low = low0 → yT B s →
   Run LP [] assign s fun j s1 => j = .normal ∧ s1.low = low0 ∧ ∀ s2 : St, (∀ u, s2.raw u = s1.raw u) → s2.low = low → Run LP [] body s2 (oz B base above lp jm l out)) :
  II LP (qL B base g params assign body jm l) base.length g A (onL F) := by
 refine YR hA ?_
 intro x t out hF e above ctr hn hr
 have hb : Jp B base above { gen := g, params, assign, body, ready := false, pending := none } (l (.inl t)) (base ++ [⟨e, some { gen := g, params, assign, body, ready := false, pending := none }⟩] ++ above) := ⟨e, rfl, hn, hr⟩
 obtain ⟨j, s1, h1, rfl, h2, h3⟩ := h x t out hF e above (base ++ [⟨e, some { gen := g, params, assign, body, ready := true, pending := none }⟩] ++ above) _ { gen := g, params, assign, body, ready := false, pending := none }
  ⟨FK params (A x) (e.map fun p => (p.1, Eu base.length p.1 p.2)), base ++ [⟨e, some { gen := g, params, assign, body, ready := true, pending := none }⟩] ++ above, ctr⟩
  (fun u y hu hy => by
   show xl.get u (FK params (A x) _) = _
   rw [Jj _ _ _ _ hu, NA, hy]; rfl)
  (V1 _ _ _ _ _ hnd) hr hb rfl (fun u _ => UH _ _ _ _ _ _ (fun u => mW _ _ _ _ _))
 exact ⟨.normal, s1, h1, rfl, h2, h3 _ (fun u => rfl) rfl⟩
theorem wl {α : Type} [yA α] {s : St} {t g : Nat} {x : Sl α} (h : s.raw t = some (.box g [.d (yA.enc x)])) : s.raw t = some (.box g [x.cool.lv]) := by rw [h, O3]
theorem cm {τ X : Type} {B : List Nat} {base : List Fr} {g : Nat} {params : List Nat} {assign body : C0} {jm : X → xt} {l : τ ⊕ X → List (Nat × BL)} (st : τ ⊕ X) (low : List Fr) (h : qL B base g params assign body jm l st low) : low.length = base.length + 1 := by
 have := Jp.len h
 simpa using this
theorem wW : type_of% (And.intro @fV <| And.intro @dZ <| And.intro @rr <| And.intro @ev <| And.intro @kD <| And.intro @j3 <| And.intro @jy <| And.intro @jk <| And.intro @kP <| And.intro @lF <| And.intro @pB <| And.intro @og <| And.intro @sU <| And.intro @sb <| And.intro @rn <| And.intro @vM <| And.intro @sJ <| And.intro @vW <| And.intro @rq <| And.intro @kF <| And.intro @lV <| And.intro @sH <| And.intro @gr <| And.intro @eR <| And.intro @ku <| And.intro @lL <| And.intro @kA <| And.intro @ob <| And.intro @pJ <| And.intro @kL <| And.intro @sS <| And.intro @oQ <| And.intro @lU <| And.intro @fQ <| And.intro @lM <| And.intro @eC <| And.intro @Aj <| And.intro @lI <| And.intro @bR <| And.intro @jZ <| And.intro @km <| And.intro @J9 <| And.intro @ef <| And.intro @KN <| And.intro @Gp <| And.intro @QY <| And.intro @gp <| And.intro @fB <| And.intro @LS <| And.intro @fO <| And.intro @Z4 <| And.intro @dt <| And.intro @aK <| And.intro @nk <| And.intro @sP <| And.intro @nu <| And.intro @kO <| And.intro @kK <| And.intro @dR <| And.intro @lQ <| And.intro @Rr <| And.intro @lD <| And.intro @lE <| And.intro @eV <| And.intro @oG <| And.intro @oH <| And.intro @gu <| And.intro @nO <| And.intro @dI <| And.intro @lG <| And.intro @Oj <| And.intro @aS <| And.intro @Ww <| And.intro @eU <| And.intro @ZT <| And.intro @aR <| And.intro @aH <| And.intro @XG <| And.intro @aO <| And.intro @Zd <| And.intro @WO <| And.intro @ZY <| And.intro @fX <| And.intro @du <| And.intro @aP <| And.intro @aD <| And.intro @bm <| And.intro @jb <| And.intro @jf <| And.intro @Q5 <| And.intro @Vr <| And.intro @Zm <| And.intro @Zx <| And.intro @WC <| And.intro @gQ <| And.intro @dy <| And.intro @gV <| And.intro @jv <| And.intro @V8 <| And.intro @Vh <| And.intro @kZ <| And.intro @ov <| And.intro @d5 <| And.intro @Zq <| And.intro @pg <| And.intro @j9 <| And.intro @dX <| And.intro @Z9 <| And.intro @kJ <| And.intro @lB <| And.intro @kV <| And.intro @fW <| And.intro @QZ <| And.intro @nP <| And.intro @nS <| And.intro @pX <| And.intro @j5 <| And.intro @lH <| And.intro @kW <| And.intro @kg <| And.intro @kx <| And.intro @lP <| And.intro @jl <| And.intro @jo <| And.intro @ki <| And.intro @nF <| And.intro @od <| And.intro @pR <| And.intro @Z3 <| And.intro @Xx <| And.intro @bC <| And.intro @bN <| And.intro @nT <| And.intro @kC <| And.intro @lW <| And.intro @uf <| And.intro @jt <| And.intro @Zt <| And.intro @O5 <| And.intro @Ql <| And.intro @ZZ <| And.intro @ky <| And.intro @eS <| And.intro @Rj <| And.intro @O4 <| And.intro @kw <| And.intro @Za <| And.intro @de <| And.intro @kY <| And.intro @j0 <| And.intro @oS <| And.intro @gP <| And.intro @j8 <| And.intro @Z6 <| And.intro @R9 <| And.intro @X2 <| And.intro @eG <| And.intro @aU <| And.intro @X8 <| And.intro @fP <| And.intro @XR <| And.intro @al <| And.intro @SS <| And.intro @RA <| And.intro @RX <| And.intro @ju <| And.intro @Jo <| And.intro @eo <| And.intro @aI <| And.intro @nv <| And.intro @jz <| And.intro @Wj <| And.intro @jq <| And.intro @pL <| And.intro @kN <| And.intro @oh <| And.intro @pY <| And.intro @eu <| And.intro @Vz <| And.intro @Up <| And.intro @WZ <| And.intro @rk <| And.intro @Uk <| And.intro @HF <| And.intro @nf <| And.intro @jr <| And.intro @dz <| And.intro @kb <| And.intro @eB <| And.intro @j6 <| And.intro @ng <| And.intro @ol <| And.intro @get_keep <| And.intro @UM <| And.intro @aM <| And.intro @vF @u5) :=
 And.intro @fV <| And.intro @dZ <| And.intro @rr <| And.intro @ev <| And.intro @kD <| And.intro @j3 <| And.intro @jy <| And.intro @jk <| And.intro @kP <| And.intro @lF <| And.intro @pB <| And.intro @og <| And.intro @sU <| And.intro @sb <| And.intro @rn <| And.intro @vM <| And.intro @sJ <| And.intro @vW <| And.intro @rq <| And.intro @kF <| And.intro @lV <| And.intro @sH <| And.intro @gr <| And.intro @eR <| And.intro @ku <| And.intro @lL <| And.intro @kA <| And.intro @ob <| And.intro @pJ <| And.intro @kL <| And.intro @sS <| And.intro @oQ <| And.intro @lU <| And.intro @fQ <| And.intro @lM <| And.intro @eC <| And.intro @Aj <| And.intro @lI <| And.intro @bR <| And.intro @jZ <| And.intro @km <| And.intro @J9 <| And.intro @ef <| And.intro @KN <| And.intro @Gp <| And.intro @QY <| And.intro @gp <| And.intro @fB <| And.intro @LS <| And.intro @fO <| And.intro @Z4 <| And.intro @dt <| And.intro @aK <| And.intro @nk <| And.intro @sP <| And.intro @nu <| And.intro @kO <| And.intro @kK <| And.intro @dR <| And.intro @lQ <| And.intro @Rr <| And.intro @lD <| And.intro @lE <| And.intro @eV <| And.intro @oG <| And.intro @oH <| And.intro @gu <| And.intro @nO <| And.intro @dI <| And.intro @lG <| And.intro @Oj <| And.intro @aS <| And.intro @Ww <| And.intro @eU <| And.intro @ZT <| And.intro @aR <| And.intro @aH <| And.intro @XG <| And.intro @aO <| And.intro @Zd <| And.intro @WO <| And.intro @ZY <| And.intro @fX <| And.intro @du <| And.intro @aP <| And.intro @aD <| And.intro @bm <| And.intro @jb <| And.intro @jf <| And.intro @Q5 <| And.intro @Vr <| And.intro @Zm <| And.intro @Zx <| And.intro @WC <| And.intro @gQ <| And.intro @dy <| And.intro @gV <| And.intro @jv <| And.intro @V8 <| And.intro @Vh <| And.intro @kZ <| And.intro @ov <| And.intro @d5 <| And.intro @Zq <| And.intro @pg <| And.intro @j9 <| And.intro @dX <| And.intro @Z9 <| And.intro @kJ <| And.intro @lB <| And.intro @kV <| And.intro @fW <| And.intro @QZ <| And.intro @nP <| And.intro @nS <| And.intro @pX <| And.intro @j5 <| And.intro @lH <| And.intro @kW <| And.intro @kg <| And.intro @kx <| And.intro @lP <| And.intro @jl <| And.intro @jo <| And.intro @ki <| And.intro @nF <| And.intro @od <| And.intro @pR <| And.intro @Z3 <| And.intro @Xx <| And.intro @bC <| And.intro @bN <| And.intro @nT <| And.intro @kC <| And.intro @lW <| And.intro @uf <| And.intro @jt <| And.intro @Zt <| And.intro @O5 <| And.intro @Ql <| And.intro @ZZ <| And.intro @ky <| And.intro @eS <| And.intro @Rj <| And.intro @O4 <| And.intro @kw <| And.intro @Za <| And.intro @de <| And.intro @kY <| And.intro @j0 <| And.intro @oS <| And.intro @gP <| And.intro @j8 <| And.intro @Z6 <| And.intro @R9 <| And.intro @X2 <| And.intro @eG <| And.intro @aU <| And.intro @X8 <| And.intro @fP <| And.intro @XR <| And.intro @al <| And.intro @SS <| And.intro @RA <| And.intro @RX <| And.intro @ju <| And.intro @Jo <| And.intro @eo <| And.intro @aI <| And.intro @nv <| And.intro @jz <| And.intro @Wj <| And.intro @jq <| And.intro @pL <| And.intro @kN <| And.intro @oh <| And.intro @pY <| And.intro @eu <| And.intro @Vz <| And.intro @Up <| And.intro @WZ <| And.intro @rk <| And.intro @Uk <| And.intro @HF <| And.intro @nf <| And.intro @jr <| And.intro @dz <| And.intro @kb <| And.intro @eB <| And.intro @j6 <| And.intro @ng <| And.intro @ol <| And.intro @get_keep <| And.intro @UM <| And.intro @aM <| And.intro @vF @u5
end Go.Lf
