/- A part of the proof. -/
import Derived.Test.YtpkbckdhkaggbaaDoorx1
set_option linter.all false
namespace Go.Lf
open Go
def W (x : Int) : Int := IntKind.i64.wrap x
inductive Sl (α : Type) where
 | nil
 | cold (xs : List α)
 | hot (xs : List α)
 | full (xs : List α)
 deriving Inhabited
namespace Sl
variable {α : Type}
def l : Sl α → List α
 | nil => []
 | cold xs | hot xs | full xs => xs
def len (x : Sl α) : Int := x.l.length
def ix (x : Sl α) (i : Int) : Option α := if 0 ≤ i then x.l[i.toNat]? else none
def cool : Sl α → Sl α
 | nil => nil
 | cold xs | hot xs | full xs => cold xs
def spent : Sl α → Sl α
 | hot xs => cold xs
 | x => x
def app (q : Nat) (x : Sl α) (ys : List α) : Option (Sl α) := match x with
 | nil => if ys = [] then some nil else if Ih ys.length q then some (hot ys) else none
 | cold _ => none
 | hot xs => if Ih (xs.length + ys.length) q then some (hot (xs ++ ys)) else none
 | full xs => if ys = [] then some (full xs) else if Ih (xs.length + ys.length) q then some (hot (xs ++ ys)) else none
def sub (x : Sl α) (lo hi : Option Int) : Option (Sl α) := match x with
 | nil => if lo.getD 0 = 0 ∧ hi.getD 0 = 0 then some nil else none
 | cold xs | hot xs | full xs => if 0 ≤ lo.getD 0 ∧ lo.getD 0 ≤ hi.getD xs.length ∧ hi.getD xs.length ≤ xs.length then some (cold ((xs.take (hi.getD xs.length).toNat).drop (lo.getD 0).toNat)) else none
def sub3 (x : Sl α) (lo : Option Int) (hi : Int) : Option (Sl α) := match x with
 | nil => if lo.getD 0 = 0 ∧ hi = 0 then some nil else none
 | cold xs | hot xs | full xs => if 0 ≤ lo.getD 0 ∧ lo.getD 0 ≤ hi ∧ hi ≤ xs.length then some (full ((xs.take hi.toNat).drop (lo.getD 0).toNat)) else none
end Sl
class vG (α : Type) where
 n : Nat
 cells : α → List DV
 enc : α → DV
 law : ∀ x, (enc x).cells = cells x
instance : vG Int := ⟨1, fun x => [.int x], .int, fun _ => rfl⟩
instance : vG Bool := ⟨1, fun x => [.bool x], .bool, fun _ => rfl⟩
instance : vG DV := ⟨1, fun x => x.cells, fun x => x, fun _ => rfl⟩
instance {α β : Type} [vG α] [vG β] : vG (α × β) := ⟨1, fun x => [.tup [vG.enc x.1, vG.enc x.2]], fun x => .tup [vG.enc x.1, vG.enc x.2], fun _ => rfl⟩
section
variable {α : Type} [vG α]
def Sl.dv : Sl α → DV
 | .nil => .nils
 | .cold xs | .hot xs | .full xs => .slice (vG.n α) (xs.map vG.enc)
def Sl.lv : Sl α → LV
 | .nil => .d .nils
 | .cold xs => .d (.slice (vG.n α) (xs.map vG.enc))
 | .hot xs => .hot (vG.n α) (xs.map vG.enc)
 | .full xs => .full (vG.n α) (xs.map vG.enc)
instance : vG (Sl α) := ⟨1, fun x => [x.dv], Sl.dv, fun x => by cases x <;> rfl⟩
end
def St.upd (s : St) (t : Nat) (x : BE) : St := { s with env := s.env.set t x }
def BE.isV : BE → Bool
 | .v _ => true
 | _ => false
def Kv (k t : Nat) : BE → LV
 | .v x => x.copy
 | .box g _ => .ptr k t g 0
 | .mapo g _ _ => .mref k t g
def St.raw (s : St) (t : Nat) : Option BE := s.env.get t
def St.free (s : St) (t : Nat) : Bool := match s.raw t with
 | some x => x.isV
 | none => true
theorem IJ (e : uI) (t u : Nat) (x : BE) : (e.set t x).get u = if t = u then some x else e.get u := by
 induction e with
 | nil => simp [uI.set, uI.get]
 | cons p e ih =>
  obtain ⟨v, y⟩ := p
  simp only [uI.set]
  by_cases h : v = t
  ·subst h
   simp only [if_true, uI.get]
   by_cases h2 : v = u
   ·simp [h2]
   ·simp [h2]
  ·simp only [h, if_false, uI.get]
   by_cases h2 : v = u
   ·subst h2
    simp [Ne.symm h]
   ·simp [h2, ih]
theorem Ae (s : St) (t u : Nat) (x : BE) : (s.upd t x).raw u = if t = u then some x else s.raw u := IJ ..
theorem sY (low : List Fr) (ctr t : Nat) : St.raw ⟨[], low, ctr⟩ t = none := rfl
theorem ig (u : Nat) (x : BE) (e : uI) (low : List Fr) (ctr t : Nat) : St.raw ⟨(u, x) :: e, low, ctr⟩ t = if u = t then some x else St.raw ⟨e, low, ctr⟩ t := rfl
theorem Zi (s : St) (t : Nat) (x : BE) : (s.upd t x).low = s.low := rfl
theorem sQ (s : St) (t : Nat) (x : BE) : (s.upd t x).ctr = s.ctr := rfl
theorem Ir (s : St) (t u : Nat) (x : BE) : (s.upd t x).free u = if t = u then x.isV else s.free u := by
 simp only [St.free, Ae]
 by_cases h : t = u <;> simp [h]
theorem sM (low : List Fr) (ctr t : Nat) : St.free ⟨[], low, ctr⟩ t = true := rfl
theorem kQ (u : Nat) (x : BE) (e : uI) (low : List Fr) (ctr t : Nat) : St.free ⟨(u, x) :: e, low, ctr⟩ t = if u = t then x.isV else St.free ⟨e, low, ctr⟩ t := by
 simp only [St.free, ig]
 by_cases h : u = t <;> simp [h]
theorem G8 (s : St) (t : Nat) : s.slot t = match s.raw t with
 | some x => Kv s.low.length t x
 | none => .d .bot := by
 simp only [St.slot, St.raw]
 cases s.env.get t with
 | none => rfl
 | some x => cases x <;> rfl
theorem sJ (s : St) (t u : Nat) (x : BE) : (s.upd t x).slot u = if t = u then Kv s.low.length t x else s.slot u := by
 rw [G8, G8, Ae, Zi]
 by_cases h : t = u <;> simp [h]
theorem rU (u : Nat) (x : BE) (e : uI) (low : List Fr) (ctr t : Nat) : St.slot ⟨(u, x) :: e, low, ctr⟩ t = if u = t then Kv low.length u x else St.slot ⟨e, low, ctr⟩ t := by
 rw [G8, G8, ig]
 by_cases h : u = t <;> simp [h]
theorem Lt (k t : Nat) (v : DV) : Kv k t (.v (.d v)) = .d v := rfl
theorem qc (k t : Nat) (v : Int) : Kv k t (.v (.d (.int v))) = .d (.int v) := rfl
theorem al (k t j u g o : Nat) : Kv k t (.v (.ptr j u g o)) = .ptr j u g o := rfl
theorem YD (k t j u g : Nat) : Kv k t (.v (.mref j u g)) = .mref j u g := rfl
theorem bK (k t g : Nat) (cs : List LV) : Kv k t (.box g cs) = .ptr k t g 0 := rfl
theorem cA (k t g n : Nat) (es : List (List Int × LV)) : Kv k t (.mapo g n es) = .mref k t g := rfl
theorem sF (k t f : Nat) (a b : List LV) : Kv k t (.v (.fn f a b)) = .fn f a b := rfl
theorem rr {α : Type} [vG α] (k t : Nat) (x : Sl α) : (∀ xs, x ≠ .full xs) → Kv k t (.v x.lv) = .d (vG.enc x) := by
 cases x <;> simp [Kv, Sl.lv, LV.copy, vG.enc, Sl.dv]
def Fh (LP : A2) (C : AP) (g : Nat) (r : List AG) (s : St) (t : Option Nat) : Option LV → Option St
 | none => none
 | some v => match s.put t v with
  | some s' => evalOps LP C g r s'
  | none => none
def kj (sz : Nat) (x i : LV) : Option LV := match MI x, E8 i with
 | some (z, xs), some i => match xs[i]? with
  | some e => if z = sz then some (.d (.fptr e.cells 0)) else none
  | none => none
 | _, _ => none
def lm (c a b : LV) : Option LV := match E0 c with
 | some true => some a
 | some false => some b
 | none => none
def fj (op : BinOp) (x y : LV) : Option LV := match QF x, QF y with
 | some a, some b => (Bm (binOp op 0 (.int .i64 a) (.int .i64 b))).map .d
 | _, _ => none
def rh (neg : Bool) (x y : LV) : Option LV := match E0 x, E0 y with
 | some a, some b => some (.d (.bool (if neg then a != b else a == b)))
 | _, _ => none
def pJ (neg : Bool) (n : Nat) (x y : LV) : Option LV := match x.aggKey, y.aggKey with
 | some a, some b => if a.length = n ∧ b.length = n then some (.d (.bool (if neg then decide (a ≠ b) else decide (a = b)))) else none
 | _, _ => none
def vE (op : UnOp) (x : LV) : Option LV := match x with
 | .d (.int a) => (Bm (Op.unary op (.int .i64 a))).map .d
 | .d (.bool a) => (Bm (Op.unary op (.bool a))).map .d
 | _ => none
def pj (x : LV) : Option LV := (eS x).map fun n => .d (.int n)
def uK (isMax : Bool) (xs : List LV) : Option LV := (minmax isMax xs).map fun n => .d (.int n)
def nG (i : Nat) : Option BE → Option LV
 | some (.v (.d (.tup cs))) => (cs[i]?).map .d
 | some (.v (.tup cs)) => (cs[i]?).map LV.copy
 | _ => none
def GT : Option LV → Option (Option Nat)
 | none => some none
 | some x => (E8 x).map some
def Hj (sz : Nat) (x : LV) (lo hi mx : Option LV) : Option LV := match GT lo, GT hi, GT mx with
 | some lo, some hi, some mx => NM sz x lo hi mx
 | _, _, _ => none
def EL (zs : List DV) (ps : List (Nat × Nat × LV)) : Option LV := (CJ ps (zs.map .d)).map fun cs => LV.norm (.agg cs)
def V1 (k : Option Nat) (zs : List DV) (len : Nat) (ps : List (Nat × Nat × LV)) : Option LV :=
 match CJ ps ((List.replicate len zs).flatten.map .d) with
 | some cs => if cs.all LV.cellOk then match AU cs with
  | some ds => ((List.range len).mapM fun i => Ax k (i * k.getD 1) ds).map fun xs => .hot (k.getD 1) xs
  | none => none else none
 | none => none
def T0 (sz n : Nat) (p i : LV) : Option LV := match E8 i with
 | some i => if i < n then IS (i * sz) p else none
 | none => none
def RJ (k : Option Nat) (sz n : Nat) (x i : LV) : Option LV := match E8 i with
 | some i => if i < n then Jk k (i * sz) x else none
 | none => none
def du (C : AP) (f : LV) (args : List LV) : Option LV := match target f, AU args with
 | some (f, a, b), some ds => match AU a, AU b with
  | some a, some b => match C.call f ((a ++ ds ++ b).map .d) [] 0 with
   | some (v, _, _) => v.toD.map .d
   | none => none
  | _, _ => none
 | _, _ => none
def XL (n : Nat) (x : LV) : Option (List LV) := match x.known with
 | some cs => if cs.length = n ∧ cs.all LV.cellOk then some cs else none
 | none => none
def GM (k : Option Nat) (off g : Nat) : Option BE → Option LV
 | some (.box g' cs) => if g' = g then part k off cs else none
 | _ => none
def Og (s : St) (k : Option Nat) (root : Option (Option Nat)) (p : LV) : Option LV :=
 if Ak s.low.length root (some p) then match p with
  | .d (.fptr cs off) => (Ax k off cs).map .d
  | .fptr cs off => part k off cs
  | .ptr j t g off => match s.cells j t g with
   | some cs => part k off cs
   | none => none
  | _ => none
 else none
def Oj (n : Nat) (ok : Bool) (z : DV) (m k : LV) : Option LV := match k.key n with
 | none => none
 | some key =>
  let out (r : Option DV) : Option LV := some (if ok then LV.norm (.tup [.d (r.getD z), .d (.bool r.isSome)]) else .d (r.getD z))
  match m with
  | .d (.fmap n' es) => if n' = n then out ((AM key es 0).map (·.2)) else none
  | .d .nilmap => out none
  | _ => none
def FU (n off g : Nat) (xs : Option (List LV)) : Option BE → Option BE
 | some (.box g' cs) => match xs with
  | some xs => if g' = g then (if xs.length = n ∧ off + n ≤ cs.length ∧ xs.all LV.cellOk then some (.box g (setCells cs off xs)) else none) else none
  | none => none
 | _ => none
section
variable (LP : A2) (C : AP)
def ec (g : Nat) (r : List AG) : Option St → Option St
 | some s => evalOps LP C g r s
 | none => none
def bv (g : Nat) (r : List AG) (s : St) (t : Option Nat) (x : Nat) : Option BE → Option St
 | some (.v (.hot z xs)) => Fh LP C g r (s.upd x (.v (.d (.slice z xs)))) t (some (.hot z xs))
 | _ => Fh LP C g r s t (some (s.slot x))
def dP (g : Nat) (r : List AG) (s : St) (t : Option Nat) (x : Nat) (sz q : Nat) (y : LV) : Option BE → Option St
 | some (.v (.hot z xs)) => Fh LP C g r (s.upd x (.v (.d (.slice z xs)))) t (A7 sz q (.hot z xs) y)
 | _ => Fh LP C g r s t (A7 sz q (s.slot x) y)
def Hh (g : Nat) (r : List AG) (s : St) (n : Nat) (p : LV) (x : vD) : Option St := ec LP C g r (match p with
 | .ptr j t g' off =>
  let r := s.take LP x
  match r.2.cells j t g', r.1.known with
  | some cs, some xs => if xs.length = n ∧ off + n ≤ cs.length ∧ xs.all LV.cellOk then some (r.2.setAt j t (.box g' (setCells cs off xs))) else none
  | _, _ => none
 | _ => none)
def Qh (g : Nat) (o : AG) (r : List AG) (s : St) (w : Bool) : LV → Option St
 | .d (.bool b) => if b = w then evalOps LP C g (o :: r) s else Fh LP C (g + 1) r s o.dst (some (.d .undef))
 | .d .undef => Fh LP C (g + 1) r s o.dst (some (.d .undef))
 | _ => none
variable {LP C} (g : Nat) (r : List AG) (s : St) (t : Option Nat) (ro : Option (Option Nat))
theorem ck (u : Nat) (v : LV) (h : s.free u = true) : Fh LP C g r s (some u) (some v) = evalOps LP C g r (s.upd u (.v v)) := by
 simp only [Fh, St.put, St.free, St.raw, St.upd] at *
 cases hx : s.env.get u with
 | none => rfl
 | some x => rw [hx] at h; cases x <;> simp_all [BE.isV]
theorem ae (v : LV) : Fh LP C g r s none (some v) = evalOps LP C g r s := rfl
theorem pH : evalOps LP C g [] s = some s := rfl
theorem aM : ec LP C g r (some s) = evalOps LP C g r s := rfl
theorem BC {o : u5} {v : Option LV} (hm : o.addr = none) (h : evalOp LP C g t o s = match v with | some v => s.put t v | none => none) :
  evalOps LP C g (⟨t, o, none, ro⟩ :: r) s = Fh LP C (g + 1) r s t v := by
 have hr : Ak s.low.length ro none = true := by cases ro <;> rfl
 simp only [evalOps, Ah, hm, Option.map_none, hr, if_true, h]
 cases v with
 | none => rfl
 | some v => rfl
theorem fE (o : u5) (b : Nat) (w : Bool) : evalOps LP C g (⟨t, o, some (b, w), ro⟩ :: r) s = Qh LP C g ⟨t, o, none, ro⟩ r s w (s.slot b) := by
 simp only [evalOps, Ah, Qh]
 split <;> rename_i h <;> split at h <;> simp_all [Fh]
 all_goals (try split at h <;> simp_all)
 all_goals (try (split <;> simp_all))
theorem iR (o : AG) : Qh LP C g o r s true (.d (.bool true)) = evalOps LP C g (o :: r) s := rfl
theorem fM (o : AG) : Qh LP C g o r s false (.d (.bool false)) = evalOps LP C g (o :: r) s := rfl
theorem hG (o : AG) : Qh LP C g o r s true (.d (.bool false)) = Fh LP C (g + 1) r s o.dst (some (.d .undef)) := rfl
theorem ic (o : AG) : Qh LP C g o r s false (.d (.bool true)) = Fh LP C (g + 1) r s o.dst (some (.d .undef)) := rfl
theorem fU (o : AG) (w : Bool) : Qh LP C g o r s w (.d .undef) = Fh LP C (g + 1) r s o.dst (some (.d .undef)) := by cases w <;> rfl
theorem mM (x : vD) : evalOps LP C g (⟨t, .move x false, none, ro⟩ :: r) s = Fh LP C (g + 1) r s t (some (s.val LP x)) := BC (v := some (s.val LP x)) _ _ _ _ _ rfl rfl
theorem lM (c a b : vD) : evalOps LP C g (⟨t, .pick c a b, none, ro⟩ :: r) s = Fh LP C (g + 1) r s t (lm (s.val LP c) (s.val LP a) (s.val LP b)) :=
 BC (v := lm (s.val LP c) (s.val LP a) (s.val LP b)) _ _ _ _ _ rfl (by simp only [evalOp, lm]; cases E0 (s.val LP c) with | none => rfl | some b => cases b <;> rfl)
theorem oz (op : BinOp) (x y : vD) : evalOps LP C g (⟨t, .bin op x y, none, ro⟩ :: r) s = Fh LP C (g + 1) r s t (fj op (s.val LP x) (s.val LP y)) :=
 BC (v := fj op (s.val LP x) (s.val LP y)) _ _ _ _ _ rfl (by
  simp only [evalOp, fj]; cases QF (s.val LP x) with
  | none => rfl
  | some a => cases QF (s.val LP y) with
   | none => rfl
   | some b => simp only; cases Bm (binOp op 0 (.int .i64 a) (.int .i64 b)) <;> rfl)
theorem pA (neg : Bool) (x y : vD) : evalOps LP C g (⟨t, .eqb neg x y, none, ro⟩ :: r) s = Fh LP C (g + 1) r s t (rh neg (s.val LP x) (s.val LP y)) :=
 BC (v := rh neg (s.val LP x) (s.val LP y)) _ _ _ _ _ rfl (by
  simp only [evalOp, rh]; cases E0 (s.val LP x) with
  | none => rfl
  | some a => cases E0 (s.val LP y) <;> rfl)
theorem oL (neg : Bool) (n : Nat) (x y : vD) : evalOps LP C g (⟨t, .eqa neg n x y, none, ro⟩ :: r) s = Fh LP C (g + 1) r s t (pJ neg n (s.val LP x) (s.val LP y)) :=
 BC (v := pJ neg n (s.val LP x) (s.val LP y)) _ _ _ _ _ rfl (by
  simp only [evalOp, pJ]; cases (s.val LP x).aggKey with
  | none => rfl
  | some a => cases (s.val LP y).aggKey with
   | none => rfl
   | some b => simp only; split <;> rfl)
theorem qk (op : UnOp) (x : vD) : evalOps LP C g (⟨t, .un op x, none, ro⟩ :: r) s = Fh LP C (g + 1) r s t (vE op (s.val LP x)) :=
 BC (v := vE op (s.val LP x)) _ _ _ _ _ rfl (by
  simp only [evalOp, vE]
  cases s.val LP x with
  | d v => cases v with
   | int a => simp only; cases Bm (Op.unary op (.int .i64 a)) <;> rfl
   | bool a => simp only; cases Bm (Op.unary op (.bool a)) <;> rfl
   | _ => rfl
  | _ => rfl)
theorem ol (x : vD) : evalOps LP C g (⟨t, .len x, none, ro⟩ :: r) s = Fh LP C (g + 1) r s t (pj (s.val LP x)) :=
 BC (v := pj (s.val LP x)) _ _ _ _ _ rfl (by simp only [evalOp, pj]; cases eS (s.val LP x) <;> rfl)
theorem rn (b : Bool) (xs : List vD) : evalOps LP C g (⟨t, .minmax b xs, none, ro⟩ :: r) s = Fh LP C (g + 1) r s t (uK b (xs.map (s.val LP))) :=
 BC (v := uK b (xs.map (s.val LP))) _ _ _ _ _ rfl (by simp only [evalOp, uK]; cases minmax b (xs.map (s.val LP)) <;> rfl)
theorem oe (i x : Nat) : evalOps LP C g (⟨t, .extract i (.tmp x) false, none, ro⟩ :: r) s = Fh LP C (g + 1) r s t (nG i (s.raw x)) :=
 BC (v := nG i (s.raw x)) _ _ _ _ _ rfl (by
  simp only [evalOp, St.raw]
  cases s.env.get x with
  | none => rfl
  | some y => cases y with
   | v y => cases y with
    | d y => cases y with
     | tup cs => simp only [nG]; cases cs[i]? <;> rfl
     | _ => rfl
    | tup cs => simp only [nG]; cases cs[i]? <;> rfl
    | _ => rfl
   | _ => rfl)
theorem iD (sz : Nat) (x : vD) (lo hi mx : Option vD) : evalOps LP C g (⟨t, .slice sz x lo hi mx, none, ro⟩ :: r) s = Fh LP C (g + 1) r s t (Hj sz (s.val LP x) (lo.map (s.val LP)) (hi.map (s.val LP)) (mx.map (s.val LP))) :=
 BC (v := Hj sz (s.val LP x) (lo.map (s.val LP)) (hi.map (s.val LP)) (mx.map (s.val LP))) _ _ _ _ _ rfl (by
  have e : ∀ o : Option vD, optNat (s.val LP) o = GT (o.map (s.val LP)) := fun o => by cases o <;> rfl
  simp only [evalOp, Hj, e]
  cases GT (lo.map (s.val LP)) with
  | none => rfl
  | some a => cases GT (hi.map (s.val LP)) with
   | none => rfl
   | some b => cases GT (mx.map (s.val LP)) with
    | none => rfl
    | some c => simp only; cases NM sz (s.val LP x) a b c <;> rfl)
theorem gI (zs : List DV) (ps : List (Nat × Nat × vD)) : evalOps LP C g (⟨t, .build zs ps, none, ro⟩ :: r) s = Fh LP C (g + 1) r s t (EL zs (ps.map fun p => (p.1, p.2.1, s.val LP p.2.2))) :=
 BC (v := EL zs (ps.map fun p => (p.1, p.2.1, s.val LP p.2.2))) _ _ _ _ _ rfl (by
  simp only [evalOp, EL]; cases CJ (ps.map fun p => (p.1, p.2.1, s.val LP p.2.2)) (zs.map .d) <;> rfl)
theorem oO (k : Option Nat) (zs : List DV) (len : Nat) (ps : List (Nat × Nat × vD)) : evalOps LP C g (⟨t, .lit k zs len ps, none, ro⟩ :: r) s = Fh LP C (g + 1) r s t (V1 k zs len (ps.map fun p => (p.1, p.2.1, s.val LP p.2.2))) :=
 BC (v := V1 k zs len (ps.map fun p => (p.1, p.2.1, s.val LP p.2.2))) _ _ _ _ _ rfl (by
  simp only [evalOp, V1]
  cases CJ (ps.map fun p => (p.1, p.2.1, s.val LP p.2.2)) ((List.replicate len zs).flatten.map .d) with
  | none => rfl
  | some cs =>
   simp only
   split
   ·cases AU cs with
    | none => rfl
    | some ds => simp only; cases (List.range len).mapM fun i => Ax k (i * k.getD 1) ds <;> rfl
   ·rfl)
theorem bj (sz : Nat) (x i : vD) : evalOps LP C g (⟨t, .iaddrS sz x i, none, ro⟩ :: r) s = Fh LP C (g + 1) r s t (kj sz (s.val LP x) (s.val LP i)) :=
 BC (v := kj sz (s.val LP x) (s.val LP i)) _ _ _ _ _ rfl (by
  simp only [evalOp, kj]
  cases MI (s.val LP x) with
  | none => rfl
  | some p => cases E8 (s.val LP i) with
   | none => rfl
   | some k =>
    simp only
    cases p.2[k]? with
    | none => rfl
    | some e => simp only; split <;> rfl)
theorem a9 (sz n : Nat) (p i : vD) : evalOps LP C g (⟨t, .iaddrA sz n p i, none, ro⟩ :: r) s = Fh LP C (g + 1) r s t (T0 sz n (s.val LP p) (s.val LP i)) :=
 BC (v := T0 sz n (s.val LP p) (s.val LP i)) _ _ _ _ _ rfl (by
  simp only [evalOp, T0]
  cases E8 (s.val LP i) with
  | none => rfl
  | some k => simp only; split <;> rfl)
theorem gQ (k : Option Nat) (sz n : Nat) (x i : vD) : evalOps LP C g (⟨t, .index k sz n x i, none, ro⟩ :: r) s = Fh LP C (g + 1) r s t (RJ k sz n (s.val LP x) (s.val LP i)) :=
 BC (v := RJ k sz n (s.val LP x) (s.val LP i)) _ _ _ _ _ rfl (by
  simp only [evalOp, RJ]
  cases E8 (s.val LP i) with
  | none => rfl
  | some m => simp only; split <;> rfl)
theorem fg (off : Nat) (p : vD) : evalOps LP C g (⟨t, .faddr off p, none, ro⟩ :: r) s = Fh LP C (g + 1) r s t (IS off (s.val LP p)) :=
 BC (v := IS off (s.val LP p)) _ _ _ _ _ rfl (by simp only [evalOp]; cases IS off (s.val LP p) <;> rfl)
theorem gr (k : Option Nat) (off : Nat) (x : vD) : evalOps LP C g (⟨t, .field k off x, none, ro⟩ :: r) s = Fh LP C (g + 1) r s t (Jk k off (s.val LP x)) :=
 BC (v := Jk k off (s.val LP x)) _ _ _ _ _ rfl (by simp only [evalOp]; cases Jk k off (s.val LP x) <;> rfl)
theorem j9 (f : Nat) (a b : List vD) : evalOps LP C g (⟨t, .mkfn f a b, none, ro⟩ :: r) s = Fh LP C (g + 1) r s t (some (LV.norm (.fn f (a.map (s.val LP)) (b.map (s.val LP))))) :=
 BC (v := some (LV.norm (.fn f (a.map (s.val LP)) (b.map (s.val LP))))) _ _ _ _ _ rfl rfl
theorem mJ (f : vD) (args : List vD) : evalOps LP C g (⟨t, .call f args none, none, ro⟩ :: r) s = Fh LP C (g + 1) r s t (du C (s.val LP f) (args.map (s.val LP))) :=
 BC (v := du C (s.val LP f) (args.map (s.val LP))) _ _ _ _ _ rfl (by
  simp only [evalOp, du]
  split
  ·rename_i f' a b ds h1 h2
   simp only [h1, h2]
   cases AU a with
   | none => rfl
   | some a => cases AU b with
    | none => rfl
    | some b =>
     simp only
     cases C.call f' (List.map LV.d (a ++ ds ++ b)) [] 0 with
     | none => rfl
     | some p => obtain ⟨v, x, y⟩ := p; simp only; cases v.toD <;> rfl
  ·rename_i h
   cases h1 : target (s.val LP f) with
   | none => rfl
   | some p => cases h2 : AU (args.map (s.val LP)) with
    | none => rfl
    | some ds => exact absurd h2 (h _ _ _ _ h1))
theorem hO (u : Nat) (zs : List DV) : evalOps LP C g (⟨some u, .alloc zs, none, ro⟩ :: r) s = evalOps LP C (g + 1) r (s.upd u (.box g (zs.map .d))) := by
 have hr : Ak s.low.length ro none = true := by cases ro <;> rfl
 simp only [evalOps, Ah, u5.addr, Option.map_none, hr, if_true, evalOp, St.upd]
theorem od (u n : Nat) (x : vD) : evalOps LP C g (⟨some u, .box n x, none, ro⟩ :: r) s = ec LP C (g + 1) r ((XL n (s.val LP x)).map fun cs => s.upd u (.box g cs)) := by
 have hr : Ak s.low.length ro none = true := by cases ro <;> rfl
 simp only [evalOps, Ah, u5.addr, Option.map_none, hr, if_true, evalOp, XL]
 cases (s.val LP x).known with
 | none => rfl
 | some cs =>
  simp only
  by_cases h : cs.length = n ∧ cs.all LV.cellOk = true
  ·simp only [if_pos h]; rfl
  ·simp only [if_neg h]; rfl
theorem fh (u n : Nat) : evalOps LP C g (⟨some u, .mkmap n, none, ro⟩ :: r) s = evalOps LP C (g + 1) r (s.upd u (.mapo g n [])) := by
 have hr : Ak s.low.length ro none = true := by cases ro <;> rfl
 simp only [evalOps, Ah, u5.addr, Option.map_none, hr, if_true, evalOp, St.upd]
theorem lW (k : Option Nat) (p : vD) : evalOps LP C g (⟨t, .load k p false, none, ro⟩ :: r) s = Fh LP C (g + 1) r s t (Og s k ro (s.val LP p)) := by
 have e : Ah LP C g ⟨t, .load k p false, none, ro⟩ s = if Ak s.low.length ro (some (s.val LP p)) = true then evalOp LP C g t (.load k p false) s else none := rfl
 simp only [evalOps, e, Og]
 by_cases h : Ak s.low.length ro (some (s.val LP p)) = true
 case neg => rw [if_neg h, if_neg h]; rfl
 case pos =>
  rw [if_pos h, if_pos h]
  simp only [evalOp]
  cases s.val LP p with
  | d v => cases v with
   | fptr cs off => simp only; cases Ax k off cs <;> rfl
   | _ => rfl
  | fptr cs off => simp only; cases part k off cs <;> rfl
  | ptr j t' g' off => simp only; cases s.cells j t' g' with
   | none => rfl
   | some cs => simp only; cases part k off cs <;> rfl
  | _ => rfl
theorem fD (n : Nat) (p x : vD) (h : Ak s.low.length ro (some (s.val LP p)) = true) : evalOps LP C g (⟨t, .store n p x, none, ro⟩ :: r) s = Hh LP C (g + 1) r s n (s.val LP p) x := by
 simp only [evalOps, Ah, u5.addr, Option.map_some, h, if_true, evalOp, Hh]
 cases s.val LP p with
 | ptr j t' g' off =>
  simp only
  cases (s.take LP x).2.cells j t' g' with
  | none => rfl
  | some cs => cases (s.take LP x).1.known with
   | none => rfl
   | some xs =>
    simp only
    by_cases hc : xs.length = n ∧ off + n ≤ cs.length ∧ xs.all LV.cellOk = true
    ·simp only [if_pos hc, ec]
    ·simp only [if_neg hc, ec]
 | _ => rfl
def nQ (s : St) (n : Nat) (ok : Bool) (z : DV) (ro : Option (Option Nat)) (m k : LV) : Option LV :=
 if Ak s.low.length ro (some m) then match m with
  | .mref j t g' => match k.key n with
   | none => none
   | some key => match s.entries j t g' n with
    | some es => some (if ok then LV.norm (.tup [((AM key es 0).map fun p => p.2.copy).getD (.d z), .d (.bool (AM key es 0).isSome)]) else ((AM key es 0).map fun p => p.2.copy).getD (.d z))
    | none => none
  | m => Oj n ok z m k
 else none
theorem bq (n : Nat) (m k : vD) (ok : Bool) (z : DV) : evalOps LP C g (⟨t, .lookup n m k ok z, none, ro⟩ :: r) s = Fh LP C (g + 1) r s t (nQ s n ok z ro (s.val LP m) (s.val LP k)) := by
 have e : Ah LP C g ⟨t, .lookup n m k ok z, none, ro⟩ s = if Ak s.low.length ro (some (s.val LP m)) = true then evalOp LP C g t (.lookup n m k ok z) s else none := rfl
 simp only [evalOps, e, nQ]
 by_cases h : Ak s.low.length ro (some (s.val LP m)) = true
 case neg => rw [if_neg h, if_neg h]; rfl
 case pos =>
  rw [if_pos h, if_pos h]
  simp only [evalOp]
  cases hk : (s.val LP k).key n with
  | none => cases s.val LP m <;> simp only [Oj, hk] <;> rfl
  | some key => cases hm : s.val LP m with
   | mref j t' g' =>
    simp only
    cases s.entries j t' g' n with
    | none => rfl
    | some es => simp only; cases AM key es 0 <;> cases ok <;> rfl
   | d v => cases v with
    | fmap n' es =>
     simp only [Oj, hk]
     by_cases hn : n' = n
     ·simp only [if_pos hn]; cases AM key es 0 <;> cases ok <;> rfl
     ·simp only [if_neg hn]; rfl
    | nilmap => simp only [Oj, hk]; cases ok <;> rfl
    | _ => simp only [Oj, hk]; rfl
   | _ => simp only [Oj, hk]; rfl
theorem gz (x : Nat) : evalOps LP C g (⟨t, .move (.tmp x) true, none, ro⟩ :: r) s = bv LP C (g + 1) r s t x (s.raw x) := by
 have hr : Ak s.low.length ro none = true := by cases ro <;> rfl
 simp only [evalOps, Ah, u5.addr, Option.map_none, hr, if_true, evalOp, St.take, bv, St.raw]
 cases s.env.get x with
 | none => rfl
 | some y => cases y with
  | v y => cases y <;> rfl
  | _ => rfl
theorem jQ (x : Nat) (z : Nat) (xs : List DV) (y : vD) (h : s.env.get x = some (.v (.hot z xs))) : ({ s with env := s.env.set x (.v (.d (.slice z xs))) } : St).val LP y = s.val LP y := by
 cases y with
 | tmp u =>
  simp only [St.val, St.slot, IJ]
  by_cases hu : x = u
  ·subst hu; simp [h, LV.copy]
  ·simp only [hu, if_false]
 | con v => rfl
 | glob v => rfl
theorem bm (sz q x : Nat) (y : vD) : evalOps LP C g (⟨t, .append sz q (.tmp x) y, none, ro⟩ :: r) s = dP LP C (g + 1) r s t x sz q (s.val LP y) (s.raw x) := by
 have hr : Ak s.low.length ro none = true := by cases ro <;> rfl
 simp only [evalOps, Ah, u5.addr, Option.map_none, hr, if_true, evalOp, St.take, dP, St.raw]
 cases he : s.env.get x with
 | none => simp only; cases A7 sz q (s.slot x) (s.val LP y) <;> rfl
 | some z => cases z with
  | v z => cases z with
   | hot z xs => simp only [jQ s x z xs y he]; cases A7 sz q (.hot z xs) (s.val LP y) <;> rfl
   | _ => simp only; cases A7 sz q (s.slot x) (s.val LP y) <;> rfl
  | _ => simp only; cases A7 sz q (s.slot x) (s.val LP y) <;> rfl
end
section
variable (LP : A2)
open Classical in
noncomputable def om : AP where
 call f args low ctr := if h : ∃ r, ∃ n, (Fj LP n).call f args low ctr = some r then some h.choose else none
 round j g args low ctr := if h : ∃ r, ∃ n, (Fj LP n).round j g args low ctr = some r then some h.choose else none
variable {LP}
theorem N9 {f : Nat} {args : List LV} {low : List Fr} {ctr : Nat} {r : LV × List Fr × Nat} : (om LP).call f args low ctr = some r ↔ ∃ n, (Fj LP n).call f args low ctr = some r := by
 constructor
 ·intro h
  simp only [om] at h
  split at h
  ·rename_i h'
   simp only [Option.some.injEq] at h
   exact h ▸ h'.choose_spec
  ·simp at h
 ·intro h
  have h' : ∃ r, ∃ n, (Fj LP n).call f args low ctr = some r := ⟨r, h⟩
  simp only [om, dif_pos h', Option.some.injEq]
  obtain ⟨n, hn⟩ := h'.choose_spec
  obtain ⟨m, hm⟩ := h
  have h1 := (Eb LP (Nat.le_max_left n m)).1 _ _ _ _ _ hn
  have h2 := (Eb LP (Nat.le_max_right n m)).1 _ _ _ _ _ hm
  rw [h1] at h2
  exact Option.some.inj h2
theorem fp {j g : Nat} {args : List LV} {low : List Fr} {ctr : Nat} {r : Bool × List Fr × Nat} : (om LP).round j g args low ctr = some r ↔ ∃ n, (Fj LP n).round j g args low ctr = some r := by
 constructor
 ·intro h
  simp only [om] at h
  split at h
  ·rename_i h'
   simp only [Option.some.injEq] at h
   exact h ▸ h'.choose_spec
  ·simp at h
 ·intro h
  have h' : ∃ r, ∃ n, (Fj LP n).round j g args low ctr = some r := ⟨r, h⟩
  simp only [om, dif_pos h', Option.some.injEq]
  obtain ⟨n, hn⟩ := h'.choose_spec
  obtain ⟨m, hm⟩ := h
  have h1 := (Eb LP (Nat.le_max_left n m)).2 _ _ _ _ _ _ hn
  have h2 := (Eb LP (Nat.le_max_right n m)).2 _ _ _ _ _ _ hm
  rw [h1] at h2
  exact Option.some.inj h2
theorem b6 {g : Nat} {dst : Option Nat} {o : u5} {s s' : St} (h : evalOp LP (om LP) g dst o s = some s') : ∃ n, evalOp LP (Fj LP n) g dst o s = some s' := by
 cases o with
 | call f args vis =>
  cases vis with
  | none =>
   simp only [evalOp] at h
   split at h
   ·rename_i f' a b ds h1 h2
    split at h
    ·rename_i a' b' h3 h4
     split at h
     ·rename_i v x y h5
      obtain ⟨n, hn⟩ := N9.mp h5
      refine ⟨n, ?_⟩
      simp only [evalOp, h1, h2, h3, h4, hn]
      exact h
     ·simp at h
    ·simp at h
   ·simp at h
  | some vis =>
   have key : ∀ fv, s.val LP f = fv → (∀ j g', fv ≠ .yield j g') → ∃ n, evalOp LP (Fj LP n) g dst (.call f args (some vis)) s = some s' := by
    intro fv hf hy
    have e : ∀ C, evalOp LP C g dst (.call f args (some vis)) s = match target fv with
      | some (f, a, b) => match C.call f (a ++ args.map (s.val LP) ++ b) (s.low ++ [{ env := s.env.keep vis, loop := none }]) s.ctr with
       | some (v, low', c') => match low'.getLast? with
        | some fr => if low'.length = s.low.length + 1 then ({ env := uI.merge vis s.env fr.env, low := low'.dropLast, ctr := c' } : St).put dst v else none
        | none => none
       | none => none
      | none => none := by
     intro C
     simp only [evalOp, hf]
     cases fv with
     | yield j g' => exact absurd rfl (hy j g')
     | _ => rfl
    rw [e] at h
    split at h
    ·rename_i f' a b ht
     split at h
     ·rename_i v low' c' h5
      obtain ⟨n, hn⟩ := N9.mp h5
      refine ⟨n, ?_⟩
      rw [e]
      simp only [ht, hn]
      exact h
     ·simp at h
    ·simp at h
   cases hf : s.val LP f with
   | yield j g' =>
    simp only [evalOp, hf] at h
    split at h
    ·rename_i b low' c' h5
     obtain ⟨n, hn⟩ := fp.mp h5
     refine ⟨n, ?_⟩
     simp only [evalOp, hf, hn]
     exact h
    ·simp at h
   | _ => exact key _ hf (by intro j g' e; cases e)
 | move x t => exact ⟨0, by cases t <;> exact h⟩
 | _ => exact ⟨0, h⟩
theorem dt {g : Nat} {o : AG} {s s' : St} (h : Ah LP (om LP) g o s = some s') : ∃ n, Ah LP (Fj LP n) g o s = some s' := by
 obtain ⟨dst, op, guard, root⟩ := o
 cases guard with
 | none =>
  simp only [Ah] at h ⊢
  by_cases hr : Ak s.low.length root (op.addr.map (s.val LP)) = true
  ·simp only [hr, if_true] at h ⊢
   exact b6 h
  ·simp only [hr] at h
   simp at h
 | some p =>
  obtain ⟨t, w⟩ := p
  simp only [Ah] at h ⊢
  split at h
  ·rename_i b hb
   by_cases hw : b = w
   ·simp only [hw, if_true] at h ⊢
    by_cases hr : Ak s.low.length root (op.addr.map (s.val LP)) = true
    ·simp only [hr, if_true] at h ⊢
     exact b6 h
    ·simp only [hr] at h
     simp at h
   ·simp only [hw, if_false] at h ⊢
    exact ⟨0, h⟩
  ·exact ⟨0, h⟩
  ·simp at h
theorem MR : ∀ {ops : List AG} {g : Nat} {s s' : St}, evalOps LP (om LP) g ops s = some s' → HV LP g ops s s'
 | [], g, s, s', h => by
  simp only [evalOps, Option.some.injEq] at h
  subst h; exact .nil
 | o :: r, g, s, s', h => by
  simp only [evalOps] at h
  split at h
  ·rename_i s1 h1
   exact .cons (dt h1) (MR h)
  ·simp at h
end
inductive dX where
 | seq (c : CN)
 | block (id : Nat)
 | loop (c : CN)
section
variable (LP : A2)
def EF : List dX → vI → St → (vI → St → Prop) → Prop
 | [], j, s, J => J j s
 | .seq c :: ks, j, s, J => if j = .normal then ∃ j' s', Ab LP c s j' s' ∧ EF ks j' s' J else EF ks j s J
 | .block id :: ks, j, s, J => if j = .exit id then EF ks .normal s J else EF ks j s J
 | .loop c :: ks, j, s, J => if j = .normal then ∃ j' s', Ab LP (.loop c) s j' s' ∧ EF ks j' s' J else EF ks j s J
def Run (ks : List dX) (c : CN) (s : St) (J : vI → St → Prop) : Prop := ∃ j s', Ab LP c s j s' ∧ EF LP ks j s' J
variable {LP} {ks : List dX} {s s' : St} {J : vI → St → Prop} {a b c : CN}
theorem EF.nil {j : vI} (h : J j s) : EF LP [] j s J := h
theorem EF.seq (h : Run LP ks c s J) : EF LP (.seq c :: ks) .normal s J := by simp only [EF, if_true]; exact h
theorem Yq {i : Nat} (h : EF LP ks (.exit i) s J) : EF LP (.seq c :: ks) (.exit i) s J := by simp only [EF, reduceCtorEq, if_false]; exact h
theorem a8 (h : EF LP ks .ret s J) : EF LP (.seq c :: ks) .ret s J := by simp only [EF, reduceCtorEq, if_false]; exact h
theorem EF.loop (h : Run LP ks (.loop c) s J) : EF LP (.loop c :: ks) .normal s J := by simp only [EF, if_true]; exact h
theorem Vp {i : Nat} (h : EF LP ks (.exit i) s J) : EF LP (.loop c :: ks) (.exit i) s J := by simp only [EF, reduceCtorEq, if_false]; exact h
theorem Y2 (h : EF LP ks .ret s J) : EF LP (.loop c :: ks) .ret s J := by simp only [EF, reduceCtorEq, if_false]; exact h
theorem EF.block {id : Nat} (h : EF LP ks .normal s J) : EF LP (.block id :: ks) .normal s J := by simp only [EF, reduceCtorEq, if_false]; exact h
theorem EF.block_exit {id : Nat} (h : EF LP ks .normal s J) : EF LP (.block id :: ks) (.exit id) s J := by simp only [EF, if_true]; exact h
theorem EF.block_pass {id i : Nat} (hi : i ≠ id) (h : EF LP ks (.exit i) s J) : EF LP (.block id :: ks) (.exit i) s J := by simp only [EF, vI.exit.injEq, hi, if_false]; exact h
theorem EF.block_ret {id : Nat} (h : EF LP ks .ret s J) : EF LP (.block id :: ks) .ret s J := by simp only [EF, reduceCtorEq, if_false]; exact h
theorem Run.skip (h : EF LP ks .normal s J) : Run LP ks .skip s J := ⟨_, _, .skip, h⟩
theorem Run.exit {i : Nat} (h : EF LP ks (.exit i) s J) : Run LP ks (.exit i) s J := ⟨_, _, .exit, h⟩
theorem Run.ret (h : EF LP ks .ret s J) : Run LP ks .ret s J := ⟨_, _, .ret, h⟩
theorem Run.seq (h : Run LP (.seq b :: ks) a s J) : Run LP ks (.seq a b) s J := by
 obtain ⟨j, s', h1, h2⟩ := h
 by_cases hj : j = .normal
 ·subst hj
  simp only [EF, if_true] at h2
  obtain ⟨j', s'', h3, h4⟩ := h2
  exact ⟨j', s'', .seq h1 h3, h4⟩
 ·simp only [EF, hj, if_false] at h2
  exact ⟨j, s', .seq_jump h1 hj, h2⟩
theorem Run.block {id : Nat} (h : Run LP (.block id :: ks) c s J) : Run LP ks (.block id c) s J := by
 obtain ⟨j, s', h1, h2⟩ := h
 cases j with
 | normal => simp only [EF, reduceCtorEq, if_false] at h2; exact ⟨_, _, .block h1, h2⟩
 | ret => simp only [EF, reduceCtorEq, if_false] at h2; exact ⟨_, _, .block_ret h1, h2⟩
 | exit i =>
  by_cases hi : i = id
  ·subst hi; simp only [EF, if_true] at h2; exact ⟨_, _, .block_exit h1, h2⟩
  ·simp only [EF, vI.exit.injEq, hi, if_false] at h2; exact ⟨_, _, .block_pass h1 hi, h2⟩
theorem Run.scope (h : Run LP ks c s J) : Run LP ks (.scope c) s J := by
 obtain ⟨j, s', h1, h2⟩ := h
 exact ⟨j, s', .scope h1, h2⟩
theorem Run.cond {x : vD} {v : Bool} (hv : s.val LP x = .d (.bool v)) (h : Run LP ks (if v = true then a else b) s J) : Run LP ks (.cond x a b) s J := by
 obtain ⟨j, s', h1, h2⟩ := h
 exact ⟨j, s', .cond (c := v) (by rw [hv]; rfl) h1, h2⟩
theorem Run.condT {x : vD} (hv : s.val LP x = .d (.bool true)) (h : Run LP ks a s J) : Run LP ks (.cond x a b) s J := Run.cond hv h
theorem Run.condF {x : vD} (hv : s.val LP x = .d (.bool false)) (h : Run LP ks b s J) : Run LP ks (.cond x a b) s J := Run.cond hv h
def mm (keep : List Nat) : Option St → Option (uI × List Fr)
 | some s => some (s.env.keep keep, s.low)
 | none => none
theorem Run.ops {ops : List AG} {keep : List Nat} {e e' : uI} {low low' : List Fr} {ctr : Nat} (h : mm keep (evalOps LP (om LP) ctr ops ⟨e, low, ctr + ops.length⟩) = some (e', low'))
  (h' : ∀ ctr', EF LP ks .normal ⟨e', low', ctr'⟩ J) : Run LP ks (.ops ops keep) ⟨e, low, ctr⟩ J := by
 cases he : evalOps LP (om LP) ctr ops ⟨e, low, ctr + ops.length⟩ with
 | none => rw [he] at h; simp [mm] at h
 | some s' =>
  rw [he] at h
  simp only [mm, Option.some.injEq, Prod.mk.injEq] at h
  obtain ⟨rfl, rfl⟩ := h
  exact ⟨.normal, { s' with env := s'.env.keep keep }, .ops (MR he), h' s'.ctr⟩
theorem mO (h : Run LP (.loop c :: ks) c s J) : Run LP ks (.loop c) s J := by
 obtain ⟨j, s', h1, h2⟩ := h
 by_cases hj : j = .normal
 ·subst hj
  simp only [EF, if_true] at h2
  obtain ⟨j', s'', h3, h4⟩ := h2
  exact ⟨j', s'', .loop h1 h3, h4⟩
 ·simp only [EF, hj, if_false] at h2
  exact ⟨j, s', .loop_jump h1 hj, h2⟩
end
def turns {σ ρ : Type} (f : σ → Option (σ ⊕ ρ)) : Nat → σ → Option ρ
 | 0, _ => none
 | n + 1, x => match f x with
  | none => none
  | some (.inr r) => some r
  | some (.inl x') => turns f n x'
theorem Zk {σ ρ : Type} {f : σ → Option (σ ⊕ ρ)} : ∀ {n m : Nat} {x : σ} {r : ρ}, n ≤ m → turns f n x = some r → turns f m x = some r
 | 0, _, _, _, _, h => by simp [turns] at h
 | n + 1, 0, _, _, hm, _ => by omega
 | n + 1, m + 1, x, r, hm, h => by
  simp only [turns] at h ⊢
  split at h
  ·simp at h
  ·exact h
  ·exact Zk (by omega) h
open Classical in
noncomputable def Loop {σ ρ : Type} (f : σ → Option (σ ⊕ ρ)) (x : σ) : Option ρ := if h : ∃ r, ∃ n, turns f n x = some r then some h.choose else none
theorem P3 {σ ρ : Type} {f : σ → Option (σ ⊕ ρ)} {x : σ} {r : ρ} : Loop f x = some r ↔ ∃ n, turns f n x = some r := by
 constructor
 ·intro h
  simp only [Loop] at h
  split at h
  ·rename_i h'
   simp only [Option.some.injEq] at h
   exact h ▸ h'.choose_spec
  ·simp at h
 ·intro h
  have h' : ∃ r, ∃ n, turns f n x = some r := ⟨r, h⟩
  simp only [Loop, dif_pos h', Option.some.injEq]
  obtain ⟨n, hn⟩ := h'.choose_spec
  obtain ⟨m, hm⟩ := h
  have h1 := Zk (Nat.le_max_left n m) hn
  have h2 := Zk (Nat.le_max_right n m) hm
  rw [h1] at h2
  exact Option.some.inj h2
theorem Loop.step {σ ρ : Type} {f : σ → Option (σ ⊕ ρ)} {x x' : σ} (h : f x = some (.inl x')) : Loop f x = Loop f x' := by
 apply Option.ext
 intro r
 rw [P3, P3]
 constructor
 ·rintro ⟨n, hn⟩
  cases n with
  | zero => simp [turns] at hn
  | succ n => simp only [turns, h] at hn; exact ⟨n, hn⟩
 ·rintro ⟨n, hn⟩
  exact ⟨n + 1, by simp only [turns, h]; exact hn⟩
theorem Loop.done {σ ρ : Type} {f : σ → Option (σ ⊕ ρ)} {x : σ} {r : ρ} (h : f x = some (.inr r)) : Loop f x = some r :=
 P3.mpr ⟨1, by simp only [turns, h]⟩
theorem Run.loop {LP : A2} {ks : List dX} {c : CN} {σ ρ : Type} {f : σ → Option (σ ⊕ ρ)} {E : σ → St → Prop} {J : vI → St → Prop} {r : ρ}
  (hs : ∀ x s out, E x s → f x = some out → (∀ x', out = .inl x' → ∀ s', E x' s' → Run LP ks (.loop c) s' J) → (∀ r', out = .inr r' → r' = r) → Run LP (.loop c :: ks) c s J)
  {x : σ} {s : St} (he : E x s) (hl : Loop f x = some r) : Run LP ks (.loop c) s J := by
 obtain ⟨n, hn⟩ := P3.mp hl
 clear hl
 induction n generalizing x s with
 | zero => simp [turns] at hn
 | succ n ih =>
  simp only [turns] at hn
  apply mO
  cases ho : f x with
  | none => rw [ho] at hn; simp at hn
  | some out =>
   rw [ho] at hn
   refine hs x s out he ho ?_ ?_
   ·rintro x' rfl s' hs'
    exact ih hs' hn
   ·rintro r' rfl
    exact Option.some.inj hn
class Fo (α : Type) extends vG α where
 len : ∀ x : α, (vG.cells x).length = vG.n α
 ok : ∀ x : α, ((vG.cells x).map LV.d).all LV.cellOk = true
class Qx (α : Type) extends Fo α where
 agg : ∀ x : α, vG.enc x = .agg (vG.cells x)
class BZ (α : Type) extends Qx α where
 key : α → List Int
 hkey : ∀ x : α, vG.cells x = (key x).map .int
instance : Fo Int := ⟨fun _ => rfl, fun _ => rfl⟩
instance : Fo Bool := ⟨fun _ => rfl, fun _ => rfl⟩
inductive Fv where
 | nil
 | mk (f : Nat) (first cap : List DV)
 deriving Inhabited
def Fv.dv : Fv → DV
 | nil => .nilfn
 | mk f a b => .fn f a b
instance : vG Fv := ⟨1, fun x => [x.dv], Fv.dv, fun x => by cases x <;> rfl⟩
inductive Mp (n : Nat) (α : Type) where
 | nil
 | mk (es : List (List Int × α))
 deriving Inhabited
section
variable {α : Type} [vG α] {n : Nat}
def Mp.dv : Mp n α → DV
 | nil => .nilmap
 | mk es => .fmap n (es.map fun p => (p.1, vG.enc p.2))
instance : vG (Mp n α) := ⟨1, fun x => [x.dv], Mp.dv, fun x => by cases x <;> rfl⟩
end
structure Ar (n : Nat) (α : Type) where
 l : List α
 h : l.length = n
instance {n : Nat} {α : Type} [vG α] : vG (Ar n α) := ⟨n * vG.n α, fun x => x.l.flatMap vG.cells, fun x => .agg (x.l.flatMap vG.cells), fun _ => rfl⟩
def Ar.ix {n : Nat} {α : Type} (x : Ar n α) (i : Int) : Option α := if 0 ≤ i then x.l[i.toNat]? else none
def Ar.put {n : Nat} {α : Type} (x : Ar n α) (i : Int) (v : α) : Ar n α := ⟨x.l.set i.toNat v, by rw [List.length_set]; exact x.h⟩
section
variable {α : Type} (x : Sl α)
theorem bw : x.spent.len = x.len := by cases x <;> rfl
theorem VJ : x.spent.spent = x.spent := by cases x <;> rfl
theorem sV : x.spent.l = x.l := by cases x <;> rfl
theorem iS (i : Int) : x.spent.ix i = x.ix i := by cases x <;> rfl
theorem cU (xs : List α) : (Sl.hot xs).spent = .cold xs := rfl
theorem YC (xs : List α) : (Sl.cold xs).spent = .cold xs := rfl
theorem cM : (Sl.nil : Sl α).spent = .nil := rfl
theorem Xw (xs : List α) : (Sl.full xs).spent = .full xs := rfl
variable [vG α]
theorem dF : LV.cellOk (.d (vG.enc x)) = true := by cases x <;> rfl
theorem kc : LV.cellOk x.lv = true := by cases x <;> rfl
theorem ZE : LV.known (.d (vG.enc x)) = some [.d (vG.enc x)] := by cases x <;> rfl
theorem TD : LV.known x.lv = some [x.lv] := by cases x <;> rfl
theorem hT : vG.cells x = [vG.enc x] := rfl
theorem oC : LV.toD x.lv = some (vG.enc x) := by cases x <;> rfl
theorem kC (xs : List α) : (Sl.cold xs).lv = .d (vG.enc (Sl.cold xs)) := rfl
theorem oj : (Sl.nil : Sl α).lv = .d .nils := rfl
theorem kD : vG.enc (Sl.nil : Sl α) = .nils := rfl
theorem Jm (k t : Nat) : Kv k t (.v x.lv) = x.spent.lv := by cases x <;> rfl
theorem hQ : pj (.d (vG.enc x)) = some (.d (.int x.len)) := by cases x <;> simp [pj, eS, MI, vG.enc, Sl.dv, Sl.len, Sl.l]
theorem iL : pj x.lv = some (.d (.int x.len)) := by cases x <;> simp [pj, eS, MI, Sl.lv, Sl.len, Sl.l]
theorem Pg : vG.enc x.spent = vG.enc x := by cases x <;> rfl
theorem gU : vG.enc x.cool = vG.enc x := by cases x <;> rfl
theorem kR {i : Int} {a : α} {sz : Nat} (h : x.ix i = some a) (hz : vG.n α = sz) : kj sz (.d (vG.enc x)) (.d (.int i)) = some (.d (.fptr (vG.cells a) 0)) := by
 unfold Sl.ix at h
 split at h
 ·rename_i hi
  cases x <;> simp_all [Sl.l, kj, MI, E8, vG.enc, Sl.dv, vG.law]
  all_goals (obtain ⟨hl, rfl⟩ := List.getElem?_eq_some_iff.mp h; exact (vG.law _).symm ▸ rfl)
 ·simp at h
theorem pX {i : Int} {a : α} {sz : Nat} (h : x.ix i = some a) (hz : vG.n α = sz) : kj sz x.lv (.d (.int i)) = some (.d (.fptr (vG.cells a) 0)) := by
 have := kR x h hz
 cases x <;> exact this
end
section
variable {α : Type} [Qx α] (x : α)
theorem O5 : LV.known (.d (vG.enc x)) = some ((vG.cells x).map .d) := by rw [Qx.agg]; rfl
theorem nN {n : Nat} (hn : vG.n α = n) : XL n (.d (vG.enc x)) = some ((vG.cells x).map .d) := by
 simp only [XL, O5, List.length_map, Fo.len, hn, Fo.ok, and_self, if_true]
end
theorem hZ (a : Int) : XL 1 (.d (.int a)) = some [.d (.int a)] := rfl
theorem bR (a : Bool) : XL 1 (.d (.bool a)) = some [.d (.bool a)] := rfl
theorem lq {α : Type} [vG α] (x : Sl α) : XL 1 (.d (vG.enc x)) = some [.d (vG.enc x)] := by
 simp [XL, ZE, dF]
theorem GR (v : DV) : (LV.d v).copy = .d v := rfl
theorem PO (cs : List DV) : AU (cs.map .d) = some cs := by
 induction cs with
 | nil => rfl
 | cons c cs ih => simp [AU, LV.toD, ih]
theorem ZM (k : Option Nat) (off : Nat) (cs : List DV) : part k off (cs.map .d) = (Ax k off cs).map .d := by
 cases k with
 | none => simp only [part, Ax, List.getElem?_map, Option.map_map]; rfl
 | some n =>
  have hm : (((cs.map LV.d).drop off).take n).map LV.copy = ((cs.drop off).take n).map LV.d := by
   rw [← List.map_drop, ← List.map_take, List.map_map]
   rfl
  have hl : (((cs.map LV.d).drop off).take n).length = ((cs.drop off).take n).length := by
   rw [← List.map_drop, ← List.map_take, List.length_map]
  simp only [part, Ax, hm, hl]
  split
  ·simp only [LV.norm, LV.toD, PO, Option.map_some]
  ·rfl
theorem fZ (k : Option Nat) (off : Nat) (cs : List DV) : Jk k off (.d (.agg cs)) = (Ax k off cs).map .d := rfl
theorem MP {α : Type} [Qx α] (x : α) (k : Option Nat) (off : Nat) : Jk k off (.d (vG.enc x)) = (Ax k off (vG.cells x)).map .d := by rw [Qx.agg]; rfl
theorem X8 (k : Option Nat) (off g : Nat) (cs : List DV) : GM k off g (some (.box g (cs.map .d))) = (Ax k off cs).map .d := by simp only [GM, if_true, ZM]
theorem VF (g : Nat) (v : DV) : GM none 0 g (some (.box g [.d v])) = some (.d v) := by simp [GM, part, LV.copy]
theorem Hm (s : St) (t g : Nat) : s.cells s.low.length t g = match s.raw t with
  | some (.box g' cs) => if g' = g then some cs else none
  | _ => none := by
 simp only [St.cells, St.at, if_true, St.raw]
 cases s.env.get t with
 | none => rfl
 | some x => cases x <;> rfl
theorem cc (s : St) (k : Option Nat) (j t g off : Nat) (hj : j = s.low.length) : Og s k none (.ptr j t g off) = GM k off g (s.raw t) := by
 subst hj
 simp only [Og, Ak, if_true, Hm]
 cases s.raw t with
 | none => rfl
 | some x => cases x with
  | box g' cs =>
   simp only [GM]
   by_cases hg : g' = g
   ·simp only [if_pos hg]
   ·simp only [if_neg hg]
  | _ => rfl
theorem Xi (s : St) (k : Option Nat) (j t g off : Nat) (hj : j = s.low.length) : Og s k (some (some t)) (.ptr j t g off) = GM k off g (s.raw t) := by
 subst hj
 have h : Ak s.low.length (some (some t)) (some (.ptr s.low.length t g off)) = true := by simp [Ak]
 simp only [Og, h, if_true, Hm]
 cases s.raw t with
 | none => rfl
 | some x => cases x with
  | box g' cs =>
   simp only [GM]
   by_cases hg : g' = g
   ·simp only [if_pos hg]
   ·simp only [if_neg hg]
  | _ => rfl
theorem Xm (s : St) (k : Option Nat) (ro : Option (Option Nat)) (cs : List DV) (off : Nat) : Og s k ro (.d (.fptr cs off)) = (Ax k off cs).map .d := by
 have h : Ak s.low.length ro (some (.d (.fptr cs off))) = true := by cases ro <;> rfl
 simp only [Og, h, if_true]
theorem Xp (off j t g o : Nat) : IS off (.ptr j t g o) = some (.ptr j t g (o + off)) := rfl
theorem Uy (off : Nat) (cs : List DV) (o : Nat) : IS off (.d (.fptr cs o)) = some (.d (.fptr cs (o + off))) := rfl
theorem XV (k : Nat) (p : Option LV) : Ak k none p = true := rfl
theorem XH (j k t g off : Nat) (h : j = k) : Ak k (some (some t)) (some (.ptr j t g off)) = true := by simp [Ak, h]
theorem Td (k : Nat) (ro : Option (Option Nat)) (v : DV) : Ak k ro (some (.d v)) = true := by cases ro <;> rfl
def jP (s : St) : vD → Option BE
 | .tmp u => s.raw u
 | .con v => some (.v (.d v))
 | .glob _ => none
section
variable (LP : A2) (C : AP)
def Qz (g : Nat) (r : List AG) (s : St) (n t g' off : Nat) (x : vD) : Option BE → Option St
 | some (.v (.d v)) => ec LP C g r ((FU n off g' (LV.known (.d v)) (s.raw t)).map fun b => s.upd t b)
 | some (.v (.hot z xs)) => match x with
  | .tmp u => ec LP C g r ((FU n off g' (some [.hot z xs]) (if u = t then some (.v (.d (.slice z xs))) else s.raw t)).map fun b => (s.upd u (.v (.d (.slice z xs)))).upd t b)
  | _ => none
 | _ => Hh LP C g r s n (.ptr s.low.length t g' off) x
variable {LP C} (g : Nat) (r : List AG) (s : St)
theorem XU (n j t g' off : Nat) (x : vD) (hj : j = s.low.length) : Hh LP C g r s n (.ptr j t g' off) x = Qz LP C g r s n t g' off x (jP s x) := by
 subst hj
 have main : ∀ (y : LV) (s1 : St), s1.low = s.low → s.take LP x = (y, s1) → Hh LP C g r s n (.ptr s.low.length t g' off) x = ec LP C g r ((FU n off g' y.known (s1.raw t)).map fun b => s1.upd t b) := by
  intro y s1 hl ht
  simp only [Hh, ht]
  rw [← hl, Hm]
  cases hx : s1.raw t with
  | none => rfl
  | some z => cases z with
   | box g2 cs =>
    simp only [FU]
    by_cases hg : g2 = g'
    ·subst hg
     simp only [if_true]
     cases y.known with
     | none => rfl
     | some xs =>
      simp only
      by_cases hc : xs.length = n ∧ off + n ≤ cs.length ∧ xs.all LV.cellOk = true
      ·simp only [if_pos hc, Option.map_some, St.setAt, hl, if_true, St.upd]
      ·simp only [if_neg hc]; rfl
    ·simp only [if_neg hg]
     cases y.known <;> rfl
   | _ => rfl
 cases x with
 | con v => exact main (.d v) s rfl rfl
 | glob n => rfl
 | tmp u =>
  simp only [jP]
  cases hu : s.raw u with
  | none => rfl
  | some z => cases z with
   | v z => cases z with
    | d v => exact main (.d v) s rfl (by simp only [St.take]; unfold St.raw at hu; simp only [hu, St.slot, LV.copy])
    | hot z xs =>
     rw [main (.hot z xs) (s.upd u (.v (.d (.slice z xs)))) rfl (by simp only [St.take]; unfold St.raw at hu; simp only [hu]; rfl)]
     simp only [Qz, Ae, LV.known]
    | _ => rfl
   | _ => rfl
end
theorem qR {n g : Nat} {xs cs : List LV} (h1 : cs.length = n) (h2 : xs.length = n) (h3 : xs.all LV.cellOk = true) : FU n 0 g (some xs) (some (.box g cs)) = some (.box g xs) := by
 simp only [FU, if_true, h1, h2, h3, Nat.zero_add, Nat.le_refl, and_self, Option.some.injEq, BE.box.injEq, true_and]
 simp [setCells, h1, h2]
def Ld (C : AP) (f : Nat) (ds : List DV) : Option LV := match C.call f (ds.map .d) [] 0 with
 | some (v, _, _) => v.toD.map .d
 | none => none
def oJ (C : AP) (f : Nat) : Option (List DV) → Option LV
 | some ds => Ld C f ds
 | none => none
theorem gP (C : AP) (f : Nat) (args : List LV) : du C (.d (.fn f [] [])) args = oJ C f (AU args) := by
 simp only [du, target, List.map_nil]
 cases AU args with
 | none => rfl
 | some ds => simp only [AU, List.nil_append, List.append_nil]; rfl
theorem VT (C : AP) (f : Nat) (ds : List DV) : oJ C f (some ds) = Ld C f ds := rfl
theorem S9 : AU [] = some [] := rfl
theorem iU (v : DV) (r : List LV) : AU (.d v :: r) = (AU r).map (v :: ·) := by
 simp only [AU, LV.toD]; cases AU r <;> rfl
theorem mK {α : Type} [vG α] (x : Sl α) (r : List LV) : AU (x.lv :: r) = (AU r).map (vG.enc x :: ·) := by
 simp only [AU, oC]; cases AU r <;> rfl
theorem cg {α β : Type} [vG α] [vG β] (x : α × β) : nG 0 (some (.v (.d (vG.enc x)))) = some (.d (vG.enc x.1)) := rfl
theorem XF {α β : Type} [vG α] [vG β] (x : α × β) : nG 1 (some (.v (.d (vG.enc x)))) = some (.d (vG.enc x.2)) := rfl
theorem lj (x : Int) : vG.enc x = .int x := rfl
theorem iC (x : Bool) : vG.enc x = .bool x := rfl
theorem bS (x : Int) : vG.cells x = [.int x] := rfl
theorem Xg (x : Bool) : vG.cells x = [.bool x] := rfl
theorem cn (x : DV) : Ax none 0 [x] = some x := rfl
theorem MG (LP : A2) (s : St) (t : Nat) : s.val LP (.tmp t) = s.slot t := rfl
theorem lU (LP : A2) (s : St) (v : DV) : s.val LP (.con v) = .d v := rfl
theorem kW (a b : LV) : lm (.d (.bool true)) a b = some a := rfl
theorem kX (a b : LV) : lm (.d (.bool false)) a b = some b := rfl
theorem ge (a b : Int) : fj .add (.d (.int a)) (.d (.int b)) = some (.d (.int (W (a + b)))) := rfl
theorem fS (a b : Int) : fj .sub (.d (.int a)) (.d (.int b)) = some (.d (.int (W (a - b)))) := rfl
theorem gR (a b : Int) : fj .mul (.d (.int a)) (.d (.int b)) = some (.d (.int (W (a * b)))) := rfl
theorem hU (a b : Int) : fj .lss (.d (.int a)) (.d (.int b)) = some (.d (.bool (decide (a < b)))) := rfl
theorem iW (a b : Int) : fj .leq (.d (.int a)) (.d (.int b)) = some (.d (.bool (decide (a ≤ b)))) := rfl
theorem gf (a b : Int) : fj .gtr (.d (.int a)) (.d (.int b)) = some (.d (.bool (decide (b < a)))) := rfl
theorem ii (a b : Int) : fj .geq (.d (.int a)) (.d (.int b)) = some (.d (.bool (decide (b ≤ a)))) := rfl
theorem fW (a b : Int) : fj .eql (.d (.int a)) (.d (.int b)) = some (.d (.bool (decide (a = b)))) := by
 show (Bm (binOp .eql 0 (.int .i64 a) (.int .i64 b))).map LV.d = _
 rw [qh]; rfl
theorem gV (a b : Int) : fj .neq (.d (.int a)) (.d (.int b)) = some (.d (.bool (!decide (a = b)))) := by
 show (Bm (binOp .neq 0 (.int .i64 a) (.int .i64 b))).map LV.d = _
 rw [rT]; rfl
theorem lB (b : Bool) : vE .not (.d (.bool b)) = some (.d (.bool (!b))) := rfl
theorem qZ (keep : List Nat) (s : St) : mm keep (some s) = some (s.env.keep keep, s.low) := rfl
def Yf : List Nat → St → uI
 | [], _ => []
 | t :: ts, s => match s.raw t with
  | some x => (t, x) :: Yf ts s
  | none => Yf ts s
theorem se (ks : List Nat) (s : St) : s.env.keep ks = Yf ks s := by
 induction ks with
 | nil => rfl
 | cons t ts ih =>
  simp only [uI.keep, List.filterMap_cons, Yf, St.raw] at *
  cases s.env.get t with
  | none => exact ih
  | some x => simp only [Option.map_some]; rw [ih]
def rE (t : Nat) (ts : List Nat) (s : St) : Option BE → uI
 | some x => (t, x) :: Yf ts s
 | none => Yf ts s
theorem qU (t : Nat) (ts : List Nat) (s : St) : Yf (t :: ts) s = rE t ts s (s.raw t) := rfl
theorem qa (t : Nat) (ts : List Nat) (s : St) (x : BE) : rE t ts s (some x) = (t, x) :: Yf ts s := rfl
theorem rD (s : St) : Yf [] s = [] := rfl
instance {α : Type} [vG α] : Fo (Sl α) := ⟨fun _ => rfl, fun x => by cases x <;> rfl⟩
instance : Fo Fv := ⟨fun _ => rfl, fun x => by cases x <;> rfl⟩
instance {n : Nat} {α : Type} [vG α] : Fo (Mp n α) := ⟨fun _ => rfl, fun x => by cases x <;> rfl⟩
theorem fC {α : Type} [Fo α] : ∀ l : List α, (l.flatMap vG.cells).length = l.length * vG.n α
 | [] => by simp
 | x :: l => by simp only [List.flatMap_cons, List.length_append, Fo.len, fC l, List.length_cons]; rw [Nat.add_mul, Nat.one_mul, Nat.add_comm]
theorem eU {α : Type} [Fo α] : ∀ l : List α, ((l.flatMap vG.cells).map LV.d).all LV.cellOk = true
 | [] => rfl
 | x :: l => by rw [List.flatMap_cons, List.map_append, List.all_append, Fo.ok, eU l]; rfl
instance {n : Nat} {α : Type} [Fo α] : Qx (Ar n α) := { len := fun x => by show (x.l.flatMap vG.cells).length = n * vG.n α; rw [fC, x.h], ok := fun x => eU x.l, agg := fun _ => rfl }
theorem sH {n : Nat} {α : Type} [vG α] (x : Ar n α) : vG.cells x = x.l.flatMap vG.cells := rfl
theorem TI : ∀ l : List Int, l.flatMap vG.cells = l.map DV.int
 | [] => rfl
 | x :: l => by rw [List.flatMap_cons, TI l]; rfl
instance {n : Nat} : BZ (Ar n Int) := { key := fun x => x.l, hkey := fun x => TI x.l }
theorem cX (a : Int) : LV.known (.d (.int a)) = some [.d (.int a)] := rfl
theorem Xk (a : Bool) : LV.known (.d (.bool a)) = some [.d (.bool a)] := rfl
theorem XR : LV.known (.d .nils) = some [.d .nils] := rfl
theorem iV (a : Fv) : LV.known (.d (vG.enc a)) = some [.d (vG.enc a)] := by cases a <;> rfl
theorem fF {n : Nat} {α : Type} [vG α] (a : Mp n α) : LV.known (.d (vG.enc a)) = some [.d (vG.enc a)] := by cases a <;> rfl
theorem ia (x : Fv) : vG.cells x = [vG.enc x] := rfl
theorem gx {n : Nat} {α : Type} [vG α] (x : Mp n α) : vG.cells x = [vG.enc x] := rfl
theorem lI (x : Fv) : XL 1 (.d (vG.enc x)) = some [.d (vG.enc x)] := by cases x <;> rfl
theorem ci : XL 1 (.d .nils) = some [.d .nils] := rfl
theorem kV {α : Type} [vG α] (x : Sl α) : XL 1 x.lv = some [x.lv] := by cases x <;> rfl
def D5 (n off : Nat) (xs cs : List LV) : Option (List LV) := if xs.length = n ∧ off + n ≤ cs.length ∧ xs.all LV.cellOk then some (setCells cs off xs) else none
theorem XO (n off g : Nat) (xs cs : List LV) : FU n off g (some xs) (some (.box g cs)) = (D5 n off xs cs).map fun c => .box g c := by
 simp only [FU, D5, if_true]
 by_cases h : xs.length = n ∧ off + n ≤ cs.length ∧ xs.all LV.cellOk = true
 ·simp only [if_pos h, Option.map_some]
 ·simp only [if_neg h, Option.map_none]
theorem Xd {α : Type} [Qx α] (x : α) {n : Nat} {cs : List LV} (h1 : cs.length = n) (h2 : vG.n α = n) : D5 n 0 ((vG.cells x).map LV.d) cs = some ((vG.cells x).map LV.d) := by
 have h3 := Fo.len x
 have h4 := Fo.ok x
 simp only [D5, List.length_map, h3, h2, h4, Nat.zero_add, h1, Nat.le_refl, and_self, if_true]
 simp [setCells, h1, h2, h3]
theorem Em {y : LV} (c : LV) (h : y.cellOk = true) : D5 1 0 [y] [c] = some [y] := by
 simp [D5, h, setCells]
theorem Xf (c : LV) (a : Int) : D5 1 0 [.d (.int a)] [c] = some [.d (.int a)] := Em c rfl
theorem UE (c : LV) (a : Bool) : D5 1 0 [.d (.bool a)] [c] = some [.d (.bool a)] := Em c rfl
theorem cL {α : Type} [vG α] (c : LV) (a : Sl α) : D5 1 0 [.d (vG.enc a)] [c] = some [.d (vG.enc a)] := Em c (dF a)
theorem bu {α : Type} [vG α] (c : LV) (a : Sl α) : D5 1 0 [a.lv] [c] = some [a.lv] := Em c (kc a)
theorem bg (c : LV) (a : Fv) : D5 1 0 [.d (vG.enc a)] [c] = some [.d (vG.enc a)] := Em c (by cases a <;> rfl)
theorem cC {α : Type} [Fo α] (x : α) : ((vG.cells x).map LV.d).length = vG.n α := by rw [List.length_map, Fo.len]
theorem HY {α : Type} {x v : Sl α} {lo hi : Option Int} (h : x.sub lo hi = some v) : (∀ a, lo = some a → 0 ≤ a) ∧ (∀ a, hi = some a → 0 ≤ a) := by
 have : 0 ≤ lo.getD 0 ∧ 0 ≤ hi.getD 0 := by
  cases x <;> simp only [Sl.sub] at h <;> split at h <;> rename_i hc <;> first | (cases h; done) | (cases hi <;> simp_all <;> omega)
 constructor
 ·rintro a rfl; exact this.1
 ·rintro a rfl; exact this.2
section
variable {LP : A2} {C : AP} {α : Type} [vG α]
theorem cw (g : Nat) (r : List AG) (s : St) (n t g' off : Nat) (x : vD) (v : DV) : Qz LP C g r s n t g' off x (some (.v (.d v))) = ec LP C g r ((FU n off g' (LV.known (.d v)) (s.raw t)).map fun b => s.upd t b) := rfl
theorem Lj : ∀ (e : uI) (t : Nat) (x : BE), e.get t = some x → e.set t x = e
 | [], t, x, h => by simp [uI.get] at h
 | (u, y) :: e, t, x, h => by
  simp only [uI.get] at h
  simp only [uI.set]
  by_cases hu : u = t
  ·subst hu; simp only [if_true, Option.some.injEq] at h ⊢; rw [h]
  ·simp only [if_neg hu] at h ⊢; rw [Lj e t x h]
theorem Du (s : St) (t : Nat) (x : BE) (h : s.raw t = some x) : s.upd t x = s := by
 obtain ⟨e, low, ctr⟩ := s
 simp only [St.upd, Lj e t x h]
theorem aR (g : Nat) (r : List AG) (s : St) (t : Option Nat) (u : Nat) (x : Sl α) (h : s.raw u = some (.v x.lv)) : bv LP C g r s t u (some (.v x.lv)) = Fh LP C g r (s.upd u (.v x.spent.lv)) t (some x.lv) := by
 have hs : s.slot u = x.spent.lv := by rw [G8, h]; exact Jm x _ _
 cases x with
 | hot xs => rfl
 | nil => rw [show (Sl.nil : Sl α).spent = Sl.nil from rfl, Du s u _ h]; exact congrArg (fun y => Fh LP C g r s t (some y)) hs
 | cold xs => rw [show (Sl.cold xs).spent = Sl.cold xs from rfl, Du s u _ h]; exact congrArg (fun y => Fh LP C g r s t (some y)) hs
 | full xs => rw [show (Sl.full xs).spent = Sl.full xs from rfl, Du s u _ h]; exact congrArg (fun y => Fh LP C g r s t (some y)) hs
theorem I3 (g : Nat) (r : List AG) (s : St) (t : Option Nat) (u : Nat) (v : DV) (h : s.raw u = some (.v (.d v))) : bv LP C g r s t u (some (.v (.d v))) = Fh LP C g r s t (some (.d v)) := by
 have hs : s.slot u = .d v := by rw [G8, h]; rfl
 simp only [bv, hs]
theorem Ov (g : Nat) (r : List AG) (s : St) (t : Option Nat) (u sz q : Nat) (y : LV) (x : Sl α) (h : s.raw u = some (.v x.lv)) : dP LP C g r s t u sz q y (some (.v x.lv)) = Fh LP C g r (s.upd u (.v x.spent.lv)) t (A7 sz q x.lv y) := by
 have hs : s.slot u = x.spent.lv := by rw [G8, h]; exact Jm x _ _
 cases x with
 | hot xs => rfl
 | nil => rw [show (Sl.nil : Sl α).spent = Sl.nil from rfl, Du s u _ h]; exact congrArg (fun z => Fh LP C g r s t (A7 sz q z y)) hs
 | cold xs => rw [show (Sl.cold xs).spent = Sl.cold xs from rfl, Du s u _ h]; exact congrArg (fun z => Fh LP C g r s t (A7 sz q z y)) hs
 | full xs => rw [show (Sl.full xs).spent = Sl.full xs from rfl, Du s u _ h]; exact congrArg (fun z => Fh LP C g r s t (A7 sz q z y)) hs
theorem sA (g : Nat) (r : List AG) (s : St) (t : Option Nat) (u sz q : Nat) (y : LV) (v : DV) (h : s.raw u = some (.v (.d v))) : dP LP C g r s t u sz q y (some (.v (.d v))) = Fh LP C g r s t (A7 sz q (.d v) y) := by
 have hs : s.slot u = .d v := by rw [G8, h]; rfl
 simp only [dP, hs]
theorem fe {q : Nat} {x r : Sl α} {ys : List α} {Y : LV} (hY : Y ≠ .d .nils) (hE : MI Y = some (vG.n α, ys.map vG.enc)) (h : x.app q ys = some r) : A7 (vG.n α) q x.lv Y = some r.lv := by
 have e : A7 (vG.n α) q x.lv Y = match x.lv with
   | .d .nils => if ys.map (vG.enc (α := α)) = [] then some (.d .nils) else if Ih (ys.map (vG.enc (α := α))).length q then some (.hot (vG.n α) (ys.map vG.enc)) else none
   | .full z xs => if z = vG.n α then (if ys.map (vG.enc (α := α)) = [] then some (.full z xs) else if Ih (xs.length + (ys.map (vG.enc (α := α))).length) q then some (.hot (vG.n α) (xs ++ ys.map vG.enc)) else none) else none
   | .hot z xs => if z = vG.n α ∧ Ih (xs.length + (ys.map (vG.enc (α := α))).length) q = true then some (.hot (vG.n α) (xs ++ ys.map vG.enc)) else none
   | _ => none := by
  unfold A7
  split
  ·exact absurd rfl hY
  ·simp only [hE, ne_eq, not_true_eq_false, if_false]
   rfl
 rw [e]
 cases x with
 | nil =>
  simp only [Sl.app] at h
  simp only [Sl.lv, List.map_eq_nil_iff, List.length_map]
  by_cases h1 : ys = []
  ·rw [if_pos h1] at h ⊢; cases h; rfl
  ·rw [if_neg h1] at h ⊢
   by_cases h2 : Ih ys.length q = true
   ·rw [if_pos h2] at h ⊢; cases h; rfl
   ·rw [if_neg h2] at h; cases h
 | cold xs => simp only [Sl.app] at h; cases h
 | hot xs =>
  simp only [Sl.app] at h
  simp only [Sl.lv, List.length_map, true_and]
  by_cases h2 : Ih (xs.length + ys.length) q = true
  ·rw [if_pos h2] at h ⊢; cases h; simp
  ·rw [if_neg h2] at h; cases h
 | full xs =>
  simp only [Sl.app] at h
  simp only [Sl.lv, List.map_eq_nil_iff, List.length_map, if_true]
  by_cases h1 : ys = []
  ·rw [if_pos h1] at h ⊢; cases h; rfl
  ·rw [if_neg h1] at h ⊢
   by_cases h2 : Ih (xs.length + ys.length) q = true
   ·rw [if_pos h2] at h ⊢; cases h; simp
   ·rw [if_neg h2] at h; cases h
theorem iK {q : Nat} {x r : Sl α} (h : x.app q [] = some r) : A7 (vG.n α) q x.lv (.d .nils) = some r.lv := by
 cases x with
 | nil => simp only [Sl.app, if_true] at h; cases h; rfl
 | cold xs => simp only [Sl.app] at h; cases h
 | hot xs =>
  simp only [Sl.app, List.append_nil] at h
  simp only [A7, Sl.lv, if_true]
  by_cases h2 : Ih (xs.length + ([] : List α).length) q = true
  ·rw [if_pos h2] at h; cases h; rfl
  ·rw [if_neg h2] at h; cases h
 | full xs => simp only [Sl.app, if_true] at h; cases h; simp [A7, Sl.lv]
theorem kH {q sz : Nat} {x y r : Sl α} (hz : vG.n α = sz) (h : x.app q y.l = some r) : A7 sz q x.lv y.lv = some r.lv := by
 subst hz
 cases y with
 | nil => exact iK h
 | _ => exact fe (by simp [Sl.lv]) rfl h
theorem mC {q sz : Nat} {x y r : Sl α} (hz : vG.n α = sz) (h : x.app q y.l = some r) : A7 sz q x.lv (.d (vG.enc y)) = some r.lv := by
 subst hz
 cases y with
 | nil => exact iK h
 | _ => exact fe (by simp [vG.enc, Sl.dv]) rfl h
theorem MY (x : Sl α) : x.cool.lv = .d (vG.enc x) := by cases x <;> rfl
theorem rm {q sz : Nat} {x y r : Sl α} (hz : vG.n α = sz) (h : x.cool.app q y.l = some r) : A7 sz q (.d (vG.enc x)) (.d (vG.enc y)) = some r.lv := by
 have := mC hz h
 rwa [MY] at this
theorem rV {q sz : Nat} {x y r : Sl α} (hz : vG.n α = sz) (h : x.cool.app q y.l = some r) : A7 sz q (.d (vG.enc x)) y.lv = some r.lv := by
 have := kH hz h
 rwa [MY] at this
theorem tJ {q sz : Nat} {x y r : Sl α} {ys : List α} (hz : vG.n α = sz) (hy : y.l = ys) (h : x.app q ys = some r) : A7 sz q x.lv y.lv = some r.lv := kH hz (hy ▸ h)
theorem GQ {q sz : Nat} {x y r : Sl α} {ys : List α} (hz : vG.n α = sz) (hy : y.l = ys) (h : x.app q ys = some r) : A7 sz q x.lv (.d (vG.enc y)) = some r.lv := mC hz (hy ▸ h)
theorem tD {q sz : Nat} {y r : Sl α} {ys : List α} (hz : vG.n α = sz) (hy : y.l = ys) (h : (Sl.nil : Sl α).app q ys = some r) : A7 sz q (.d .nils) (.d (vG.enc y)) = some r.lv := mC (x := Sl.nil) hz (hy ▸ h)
theorem tM {q sz : Nat} {y r : Sl α} {ys : List α} (hz : vG.n α = sz) (hy : y.l = ys) (h : (Sl.nil : Sl α).app q ys = some r) : A7 sz q (.d .nils) y.lv = some r.lv := kH (x := Sl.nil) hz (hy ▸ h)
theorem sa {q sz : Nat} {x y r : Sl α} {ys : List α} (hz : vG.n α = sz) (hy : y.l = ys) (h : x.cool.app q ys = some r) : A7 sz q (.d (vG.enc x)) (.d (vG.enc y)) = some r.lv := rm hz (hy ▸ h)
theorem sy {q sz : Nat} {x y r : Sl α} {ys : List α} (hz : vG.n α = sz) (hy : y.l = ys) (h : x.cool.app q ys = some r) : A7 sz q (.d (vG.enc x)) y.lv = some r.lv := rV hz (hy ▸ h)
theorem gA {q : Nat} {x v : Sl α} {ys : List α} (h : x.app q ys = some v) (hy : ys ≠ []) : v.spent.lv = .d (vG.enc v) := by
 cases x with
 | nil => simp only [Sl.app, if_neg hy] at h; split at h <;> cases h; rfl
 | cold xs => simp only [Sl.app] at h; cases h
 | hot xs => simp only [Sl.app] at h; split at h <;> cases h; rfl
 | full xs => simp only [Sl.app, if_neg hy] at h; split at h <;> cases h; rfl
theorem md {q : Nat} {xs : List α} {v : Sl α} {ys : List α} (h : (Sl.hot xs).app q ys = some v) : v.spent.lv = .d (vG.enc v) := by
 simp only [Sl.app] at h; split at h <;> cases h; rfl
theorem X4 {i : Int} (h : 0 ≤ i) : E8 (.d (.int i)) = some i.toNat := by simp [E8, h]
theorem MZ {x v : Sl α} {sz : Nat} {lo hi : Option Int} (hz : vG.n α = sz) (h : x.sub lo hi = some v) (h0 : ∀ a, lo = some a → 0 ≤ a) (h1 : ∀ a, hi = some a → 0 ≤ a) :
  NM sz (.d (vG.enc x)) (lo.map Int.toNat) (hi.map Int.toNat) none = some (.d (vG.enc v)) := by
 subst hz
 have main : ∀ xs : List α, (if 0 ≤ lo.getD 0 ∧ lo.getD 0 ≤ hi.getD xs.length ∧ hi.getD xs.length ≤ xs.length then some (Sl.cold ((xs.take (hi.getD xs.length).toNat).drop (lo.getD 0).toNat)) else none) = some v →
   NM (vG.n α) (.d (.slice (vG.n α) (xs.map vG.enc))) (lo.map Int.toNat) (hi.map Int.toNat) none = some (.d (vG.enc v)) := by
  intro xs h
  split at h
  ·rename_i hc
   cases h
   have e1 : (lo.map Int.toNat).getD 0 = (lo.getD 0).toNat := by cases lo <;> rfl
   have e2 : (hi.map Int.toNat).getD xs.length = (hi.getD xs.length).toNat := by cases hi <;> simp
   simp only [NM, MI, e1, List.length_map, e2]
   rw [if_pos ⟨trivial, by omega, by omega⟩]
   simp [vG.enc, Sl.dv, List.map_take, List.map_drop]
  ·cases h
 cases x with
 | nil =>
  simp only [Sl.sub] at h
  split at h
  ·rename_i hc
   cases h
   have e1 : (lo.map Int.toNat).getD 0 = 0 := by cases lo <;> simp_all
   have e2 : (hi.map Int.toNat).getD 0 = 0 := by cases hi <;> simp_all
   simp [vG.enc, Sl.dv, NM, e1, e2]
  ·cases h
 | cold xs => exact main xs h
 | hot xs => exact main xs h
 | full xs => exact main xs h
theorem HM {a : Int} (h : 0 ≤ a) : GT (some (.d (.int a))) = some (some a.toNat) := by simp [GT, E8, h]
theorem sK {x v : Sl α} {sz : Nat} (hz : vG.n α = sz) (h : x.sub none none = some v) : Hj sz (.d (vG.enc x)) none none none = some (.d (vG.enc v)) := by
 have := MZ hz h (HY h).1 (HY h).2
 simpa [Hj, GT] using this
theorem gJ {x v : Sl α} {sz : Nat} {a : Int} (hz : vG.n α = sz) (h : x.sub (some a) none = some v) : Hj sz (.d (vG.enc x)) (some (.d (.int a))) none none = some (.d (vG.enc v)) := by
 have := MZ hz h (HY h).1 (HY h).2
 simpa [Hj, HM ((HY h).1 a rfl), show GT none = some none from rfl] using this
theorem nX {x v : Sl α} {sz : Nat} {b : Int} (hz : vG.n α = sz) (h : x.sub none (some b) = some v) : Hj sz (.d (vG.enc x)) none (some (.d (.int b))) none = some (.d (vG.enc v)) := by
 have := MZ hz h (HY h).1 (HY h).2
 simpa [Hj, HM ((HY h).2 b rfl), show GT none = some none from rfl] using this
theorem sG {x v : Sl α} {sz : Nat} {a b : Int} (hz : vG.n α = sz) (h : x.sub (some a) (some b) = some v) : Hj sz (.d (vG.enc x)) (some (.d (.int a))) (some (.d (.int b))) none = some (.d (vG.enc v)) := by
 have := MZ hz h (HY h).1 (HY h).2
 simpa [Hj, HM ((HY h).1 a rfl), HM ((HY h).2 b rfl), show GT none = some none from rfl] using this
theorem IA {x v : Sl α} {sz : Nat} {b : Int} (hz : vG.n α = sz) (h : x.sub3 none b = some v) : Hj sz (.d (vG.enc x)) none (some (.d (.int b))) (some (.d (.int b))) = some v.lv := by
 subst hz
 have main : ∀ xs : List α, (if 0 ≤ (none : Option Int).getD 0 ∧ (none : Option Int).getD 0 ≤ b ∧ b ≤ xs.length then some (Sl.full ((xs.take b.toNat).drop ((none : Option Int).getD 0).toNat)) else none) = some v →
   Hj (vG.n α) (.d (.slice (vG.n α) (xs.map vG.enc))) none (some (.d (.int b))) (some (.d (.int b))) = some v.lv := by
  intro xs h
  split at h
  ·rename_i hc
   cases h
   simp only [Option.getD_none] at hc
   have hb : 0 ≤ b := by omega
   simp only [Hj, HM hb, show GT none = some none from rfl, NM, MI, Option.getD_some, Option.getD_none, List.length_map]
   rw [if_pos ⟨trivial, by omega, by omega⟩]
   simp [Sl.lv, List.map_take]
  ·cases h
 cases x with
 | nil =>
  simp only [Sl.sub3] at h
  split at h
  ·rename_i hc
   obtain ⟨_, rfl⟩ := hc
   cases h
   rfl
  ·cases h
 | cold xs => exact main xs h
 | hot xs => exact main xs h
 | full xs => exact main xs h
end
theorem Na {α : Type} [vG α] (x : Sl α) : LV.cellOk (.d (vG.enc x)) = true := by cases x <;> rfl
theorem JH (x : Int) : LV.cellOk (.d (.int x)) = true := rfl
theorem TB (j t g : Nat) : LV.cellOk (.mref j t g) = true := rfl
theorem Gy (x : Bool) : LV.cellOk (.d (.bool x)) = true := rfl
theorem Nl (x : Fv) : LV.cellOk (.d (vG.enc x)) = true := by cases x <;> rfl
theorem NW {n : Nat} {α : Type} [vG α] (x : Mp n α) : LV.cellOk (.d (vG.enc x)) = true := by cases x <;> rfl
def St.tick (s : St) (n : Nat) : St := { s with ctr := s.ctr + n }
theorem fy (s : St) (n t : Nat) : (s.tick n).raw t = s.raw t := rfl
theorem cu (s : St) (n t : Nat) : (s.tick n).free t = s.free t := rfl
theorem gv (s : St) (n : Nat) : (s.tick n).low = s.low := rfl
def pZ (k t : Nat) : Option BE → LV
 | some x => Kv k t x
 | none => .d .bot
theorem Ej (k t : Nat) (x : BE) : pZ k t (some x) = Kv k t x := rfl
theorem IM (s : St) (t : Nat) : s.slot t = pZ s.low.length t (s.raw t) := by
 rw [G8]; cases s.raw t <;> rfl
def uY (B : List Nat) (s : St) : Prop := ∀ u, B.contains u = false → s.free u = true
def Br : List (Nat × BE) → St → Prop
 | [], _ => True
 | (t, x) :: l, s => s.raw t = some x ∧ Br l s
@[reducible] def DW : List (Nat × BE) → St → Prop
 | [], _ => True
 | (t, x) :: l, s => s.raw t = some x ∧ DW l s
theorem Br.r {s : St} : ∀ {l : List (Nat × BE)}, Br l s → DW l s
 | [], _ => trivial
 | _ :: _, h => ⟨h.1, Br.r h.2⟩
theorem XW (s : St) : Br [] s = True := rfl
theorem UM (t : Nat) (x : BE) (l : List (Nat × BE)) (s : St) : Br ((t, x) :: l) s = (s.raw t = some x ∧ Br l s) := rfl
theorem Im (ks : List Nat) (e : uI) (t : Nat) : (e.keep ks).get t = if ks.contains t then e.get t else none := by
 induction ks with
 | nil => rfl
 | cons k ks ih =>
  simp only [uI.keep, List.filterMap_cons] at ih ⊢
  rw [List.contains_cons]
  by_cases h : t = k
  ·subst h
   cases he : e.get t with
   | none =>
    simp only [Option.map_none, ih, he]
    simp
   | some x => simp [uI.get, he]
  ·have hk : (t == k) = false := by simpa using h
   rw [hk, Bool.false_or]
   cases he : e.get k with
   | none => simp only [Option.map_none]; exact ih
   | some x =>
    simp only [Option.map_some, uI.get, if_neg (Ne.symm h)]
    exact ih
theorem gW (s : St) (ks : List Nat) (t : Nat) : St.raw { s with env := s.env.keep ks } t = if ks.contains t then s.raw t else none := Im ..
theorem Br.keep {s : St} {ks : List Nat} : ∀ {l : List (Nat × BE)}, l.all (fun p => ks.contains p.1) = true → Br l s → Br l { s with env := s.env.keep ks }
 | [], _, _ => trivial
 | (t, x) :: l, h, hr => by
  simp only [List.all_cons, Bool.and_eq_true] at h
  exact ⟨by rw [gW, h.1]; exact hr.1, Br.keep h.2 hr.2⟩
theorem uY.keep {B : List Nat} {s : St} (ks : List Nat) (h : uY B s) : uY B { s with env := s.env.keep ks } := by
 intro u hu
 have := h u hu
 simp only [St.free] at this ⊢
 rw [gW]
 by_cases hk : ks.contains u = true
 ·rw [if_pos hk]; exact this
 ·rw [if_neg hk]
theorem VZ {B : List Nat} {s : St} (t : Nat) (x : LV) (h : uY B s) : uY B (s.upd t (.v x)) := by
 intro u hu
 rw [Ir]
 split
 ·rfl
 ·exact h u hu
theorem Ll {B : List Nat} {s : St} (t : Nat) (x : BE) (ht : B.contains t = true) (h : uY B s) : uY B (s.upd t x) := by
 intro u hu
 rw [Ir]
 split
 ·rename_i e; subst e; rw [ht] at hu; cases hu
 ·exact h u hu
theorem uY.put {B : List Nat} {s s' : St} {t : Option Nat} {v : LV} (h : uY B s) (hp : s.put t v = some s') : uY B s' := by
 cases t with
 | none => simp only [St.put, Option.some.injEq] at hp; subst hp; exact h
 | some t =>
  simp only [St.put] at hp
  split at hp
  ·cases hp
  ·cases hp
  ·simp only [Option.some.injEq] at hp; subst hp; exact VZ t v h
theorem uY.take {B : List Nat} {s : St} {LP : A2} (x : vD) (h : uY B s) : uY B (s.take LP x).2 := by
 cases x with
 | tmp t =>
  simp only [St.take]
  split
  ·exact VZ t _ h
  ·exact h
 | con v => exact h
 | glob v => exact h
theorem uY.setAt {B : List Nat} {s : St} {j t : Nat} {x : BE} (h : uY B s) (hb : j = s.low.length → s.free t = false) : uY B (s.setAt j t x) := by
 simp only [St.setAt]
 split
 ·rename_i hj
  refine Ll t x ?_ h
  cases hc : B.contains t with
  | true => rfl
  | false => have := h t hc; rw [hb hj] at this; cases this
 ·exact h
theorem XN {s : St} {j t g : Nat} {cs : List LV} (h : s.cells j t g = some cs) : j = s.low.length → s.free t = false := by
 rintro rfl
 rw [Hm] at h
 simp only [St.free]
 cases hr : s.raw t with
 | none => rw [hr] at h; cases h
 | some x => rw [hr] at h; cases x with
  | box g' cs => rfl
  | _ => cases h
theorem HA {s : St} {j t g n : Nat} {es : List (List Int × LV)} (h : s.entries j t g n = some es) : j = s.low.length → s.free t = false := by
 rintro rfl
 simp only [St.entries, St.at, if_true] at h
 simp only [St.free, St.raw]
 cases hr : s.env.get t with
 | none => rw [hr] at h; cases h
 | some x => rw [hr] at h; cases x with
  | mapo g' n es => rfl
  | _ => cases h
def vM (B : List Nat) (o : AG) : Bool := match o.op with
 | .alloc _ | .box _ _ | .mkmap _ => match o.dst with
  | some t => B.contains t
  | none => true
 | .call _ _ (some vis) => vis.all B.contains
 | _ => true
theorem uY.merge {B vis : List Nat} {e e' : uI} {low low' : List Fr} {c c' : Nat} (hv : vis.all B.contains = true) (h : uY B ⟨e, low, c⟩) : uY B ⟨uI.merge vis e e', low', c'⟩ := by
 intro u hu
 have hvu : vis.contains u = false := by
  cases hc : vis.contains u with
  | false => rfl
  | true =>
   have := List.all_eq_true.mp hv u (by simpa using hc)
   rw [hu] at this; cases this
 have hg : (uI.merge vis e e').get u = e.get u := by
  clear h
  induction e with
  | nil => rfl
  | cons p e ih =>
   obtain ⟨t, x⟩ := p
   simp only [uI.merge, List.filterMap_cons] at ih ⊢
   by_cases ht : t = u
   ·subst ht
    simp only [hvu, Bool.false_eq_true, if_false, uI.get, if_true]
   ·cases hc : vis.contains t with
    | false => simp only [Bool.false_eq_true, if_false, uI.get, if_neg ht]; exact ih
    | true =>
     simp only [if_true]
     cases e'.get t with
     | none => simp only [Option.map_none, uI.get, if_neg ht]; exact ih
     | some y => simp only [Option.map_some, uI.get, if_neg ht]; exact ih
 have := h u hu
 simp only [St.free, St.raw] at this ⊢
 rw [hg]; exact this
theorem uY.evalOp {LP : A2} {C : AP} {B : List Nat} {g : Nat} {o : AG} {s s' : St} (ho : vM B o = true) (h : uY B s) (he : evalOp LP C g o.dst o.op s = some s') : uY B s' := by
 obtain ⟨dst, op, guard, root⟩ := o
 simp only at he
 cases op with
 | move x t => cases t with
  | false => exact h.put he
  | true => exact (uY.take x h).put he
 | alloc zs => cases dst with
  | none => cases he
  | some t => simp only [Lf.evalOp, Option.some.injEq] at he; subst he; exact Ll t _ ho h
 | box n x => cases dst with
  | none => cases he
  | some t =>
   simp only [Lf.evalOp] at he
   split at he
   ·split at he
    ·simp only [Option.some.injEq] at he; subst he; exact Ll t _ ho h
    ·cases he
   ·cases he
 | mkmap n => cases dst with
  | none => cases he
  | some t => simp only [Lf.evalOp, Option.some.injEq] at he; subst he; exact Ll t _ ho h
 | mapset n m k v =>
  simp only [Lf.evalOp] at he
  split at he
  ·split at he
   ·rename_i es hes
    split at he
    ·simp only [Option.some.injEq] at he; subst he; exact (uY.take v h).setAt (HA hes)
    ·simp only [Option.some.injEq] at he; subst he; exact (uY.take v h).setAt (HA hes)
   ·cases he
  ·cases he
 | load k p take =>
  simp only [Lf.evalOp] at he
  split at he
  ·split at he
   ·exact h.put he
   ·cases he
  ·split at he
   ·exact h.put he
   ·cases he
  ·split at he
   ·rename_i cs hcs
    split at he
    ·exact (h.setAt (XN hcs)).put he
    ·split at he
     ·exact h.put he
     ·cases he
   ·cases he
  ·cases he
 | store n p x =>
  simp only [Lf.evalOp] at he
  split at he
  ·split at he
   ·rename_i cs xs hcs _
    split at he
    ·simp only [Option.some.injEq] at he; subst he; exact (uY.take x h).setAt (XN hcs)
    ·cases he
   ·cases he
  ·cases he
 | call f args vis => cases vis with
  | some vis =>
   simp only [vM] at ho
   simp only [Lf.evalOp] at he
   repeat' split at he
   all_goals first | exact uY.put (uY.merge (e := s.env) (low := s.low) (c := s.ctr) ho h) he | cases he
  | none =>
   simp only [Lf.evalOp] at he
   repeat' split at he
   all_goals first | exact h.put he | cases he
 | append sz q x y =>
  simp only [Lf.evalOp] at he
  split at he
  ·exact (uY.take x h).put he
  ·cases he
 | extract i x t =>
  simp only [Lf.evalOp] at he
  repeat' split at he
  all_goals first | exact h.put he | exact uY.put (VZ _ _ h) he | cases he
 | lookup n m k ok z =>
  simp only [Lf.evalOp] at he
  repeat' split at he
  all_goals first | exact h.put he | cases he
 | mentry n m k z =>
  simp only [Lf.evalOp] at he
  split at he
  ·split at he
   ·rename_i es hes
    split at he
    ·exact (h.setAt (HA hes)).put he
    ·exact (h.setAt (HA hes)).put he
   ·cases he
  ·cases he
 | mstore n m i x =>
  simp only [Lf.evalOp] at he
  split at he
  ·split at he
   ·rename_i es hes
    split at he
    ·simp only [Option.some.injEq] at he; subst he; exact (uY.take x h).setAt (HA hes)
    ·cases he
   ·cases he
  ·cases he
 | bad => cases he
 | mkfn f a b => exact h.put he
 | _ =>
  simp only [Lf.evalOp] at he
  repeat' split at he
  all_goals first | exact h.put he | cases he
theorem uY.evalOps {LP : A2} {C : AP} {B : List Nat} : ∀ {ops : List AG} {g : Nat} {s s' : St}, ops.all (vM B) = true → uY B s → evalOps LP C g ops s = some s' → uY B s'
 | [], _, s, s', _, h, he => by simp only [Lf.evalOps, Option.some.injEq] at he; subst he; exact h
 | o :: r, g, s, s', ho, h, he => by
  simp only [List.all_cons, Bool.and_eq_true] at ho
  simp only [Lf.evalOps] at he
  split at he
  ·rename_i s1 h1
   refine uY.evalOps ho.2 ?_ he
   simp only [Ah] at h1
   split at h1
   ·split at h1
    ·exact uY.evalOp ho.1 h h1
    ·cases h1
   ·split at h1
    ·split at h1
     ·split at h1
      ·exact uY.evalOp ho.1 h h1
      ·cases h1
     ·exact h.put h1
    ·exact h.put h1
    ·cases h1
  ·cases he
section
variable {LP : A2} {ks : List dX} {J : vI → St → Prop} {a b : CN} {s : St}
theorem dw {B : List Nat} {ops : List AG} {keep : List Nat} {low : List Fr} (l : List (Nat × BE)) (hl : s.low = low) (hf : uY B s) (hB : ops.all (vM B) = true) (hk : l.all (fun p => keep.contains p.1) = true)
  (h : ∃ s1, Lf.evalOps LP (om LP) s.ctr ops (s.tick ops.length) = some s1 ∧ Br l s1 ∧ s1.low = low)
  (h' : ∀ s', DW l s' → s'.low = low → uY B s' → EF LP ks .normal s' J) : Run LP ks (.ops ops keep) s J := by
 obtain ⟨s1, he, hr, hl1⟩ := h
 have hf1 : uY B s1 := uY.evalOps hB (show uY B (s.tick ops.length) from hf) he
 obtain ⟨e, lw, c⟩ := s
 exact ⟨.normal, { s1 with env := s1.env.keep keep }, .ops (MR he), h' _ (Br.keep hk hr).r hl1 (uY.keep keep hf1)⟩
theorem ew {t : Nat} {c : Bool} (hr : s.raw t = some (.v (.d (.bool c)))) (hc : c = true) (h : Run LP ks a s J) : Run LP ks (.cond (.tmp t) a b) s J := by
 subst hc
 refine Run.condT ?_ h
 rw [MG, IM, hr]; rfl
theorem ep {t : Nat} {c : Bool} (hr : s.raw t = some (.v (.d (.bool c)))) (hc : c = false) (h : Run LP ks b s J) : Run LP ks (.cond (.tmp t) a b) s J := by
 subst hc
 refine Run.condF ?_ h
 rw [MG, IM, hr]; rfl
end
theorem Run.sub {LP : A2} {ks : List dX} {J : vI → St → Prop} {c : CN} {s : St} {Q : vI → St → Prop} (h : Run LP [] c s Q) (h' : ∀ j s', Q j s' → EF LP ks j s' J) : Run LP ks c s J := by
 obtain ⟨j, s', h1, h2⟩ := h
 exact ⟨j, s', h1, h' j s' h2⟩
def qu {σ ρ : Type} (E : σ → St → Prop) (Q : ρ → vI → St → Prop) (out : σ ⊕ ρ) (j : vI) (s : St) : Prop := match out with
 | .inl x => j = .normal ∧ E x s
 | .inr r => j ≠ .normal ∧ Q r j s
theorem i6 {LP : A2} {ks : List dX} {c : CN} {σ ρ : Type} {f : σ → Option (σ ⊕ ρ)} {E : σ → St → Prop} {Q : ρ → vI → St → Prop} {J : vI → St → Prop} {r : ρ} {x : σ} {s : St}
  (hs : ∀ x s out, E x s → f x = some out → Run LP [] c s (qu E Q out)) (he : E x s) (hl : Loop f x = some r) (h' : ∀ j s', Q r j s' → EF LP ks j s' J) : Run LP ks (.loop c) s J := by
 obtain ⟨n, hn⟩ := P3.mp hl
 clear hl
 induction n generalizing x s with
 | zero => simp [turns] at hn
 | succ n ih =>
  simp only [turns] at hn
  cases ho : f x with
  | none => rw [ho] at hn; simp at hn
  | some out =>
   rw [ho] at hn
   obtain ⟨j, s', h1, h2⟩ := hs x s out he ho
   cases out with
   | inl x' =>
    obtain ⟨rfl, hx⟩ := h2
    obtain ⟨j', s'', h3, h4⟩ := ih hx hn
    exact ⟨j', s'', .loop h1 h3, h4⟩
   | inr r' =>
    obtain ⟨hj, hq⟩ := h2
    obtain rfl := Option.some.inj hn
    exact ⟨j, s', .loop_jump h1 hj, h' j s' hq⟩
theorem tG {α : Type} [vG α] {s : St} {t : Nat} {x : Sl α} (h : s.raw t = some (.v (.d (vG.enc x)))) : s.raw t = some (.v x.cool.lv) := by rw [h, MY]
def St.merged (s : St) (vis : List Nat) (c : Nat) : St := ⟨uI.merge vis s.env (s.env.keep vis), s.low, c⟩
theorem bB (vis : List Nat) (E : uI) (t : Nat) : ∀ e : uI, (∀ u x, e.get u = some x → E.get u = some x ∨ (∃ y, E.get u = some y)) → (uI.merge vis e (E.keep vis)).get t = if vis.contains t then (match e.get t with | some _ => E.get t | none => none) else e.get t
 | [], _ => by simp [uI.merge, uI.get]
 | (u, x) :: e, h => by
  have hu : ∃ y, uI.get u E = some y := by
   rcases h u x (by simp [uI.get]) with h1 | h1
   ·exact ⟨x, h1⟩
   ·exact h1
  obtain ⟨y, hy⟩ := hu
  have ih := bB vis E t e
  by_cases hut : u = t
  ·subst hut
   cases hc : vis.contains u with
   | false => simp only [uI.merge, List.filterMap_cons, hc, Bool.false_eq_true, if_false, uI.get, if_true]
   | true => simp only [uI.merge, List.filterMap_cons, hc, if_true, Im, hy, Option.map_some, uI.get]
  ·have ih' : (uI.merge vis e (E.keep vis)).get t = if vis.contains t then (match uI.get t e with | some _ => uI.get t E | none => none) else uI.get t e := by
    apply ih
    intro u' x' hx'
    by_cases hu2 : u = u'
    ·subst hu2; exact .inr ⟨y, hy⟩
    ·exact h u' x' (by simp only [uI.get, if_neg hu2]; exact hx')
   simp only [uI.get, if_neg hut]
   rw [← ih']
   cases hc : vis.contains u with
   | false => simp only [uI.merge, List.filterMap_cons, hc, Bool.false_eq_true, if_false, uI.get, if_neg hut]
   | true => simp only [uI.merge, List.filterMap_cons, hc, if_true, Im, hy, Option.map_some, uI.get, if_neg hut]
theorem MU (s : St) (vis : List Nat) (c t : Nat) : (s.merged vis c).raw t = s.raw t := by
 simp only [St.raw, St.merged]
 rw [bB vis s.env t s.env (fun u x h => .inl h)]
 split
 ·cases s.env.get t <;> rfl
 ·rfl
theorem OS (s : St) (vis : List Nat) (c t : Nat) : (s.merged vis c).free t = s.free t := by
 simp only [St.free, MU]
theorem Xr (s : St) (vis : List Nat) (c : Nat) : (s.merged vis c).low = s.low := rfl
section
variable (LP : A2) (C : AP)
def LK (g : Nat) (r : List AG) (s : St) (t : Option Nat) (vis : List Nat) : Option (LV × List Fr × Nat) → Option St
 | some (v, low', c') => match low'.getLast? with
  | some fr => if low'.length = s.low.length + 1 then Fh LP C g r { env := uI.merge vis s.env fr.env, low := low'.dropLast, ctr := c' } t (some v) else none
  | none => none
 | none => none
variable {LP C} (g : Nat) (r : List AG) (s : St) (t : Option Nat) (ro : Option (Option Nat))
theorem XQ (vis : List Nat) (v : LV) (c : Nat) (low2 : List Fr) (h : low2 = s.low) : LK LP C g r s t vis (some (v, low2 ++ [⟨s.env.keep vis, none⟩], c)) = Fh LP C g r (s.merged vis c) t (some v) := by
 subst h
 simp [LK, St.merged]
theorem nu (fv : DV) (f : Nat) (a b : List DV) (fo : vD) (args : List vD) (vis : List Nat) (h : s.val LP fo = .d fv) (hf : fv = .fn f a b) :
  evalOps LP C g (⟨t, .call fo args (some vis), none, ro⟩ :: r) s = LK LP C (g + 1) r s t vis (C.call f (a.map .d ++ args.map (s.val LP) ++ b.map .d) (s.low ++ [⟨s.env.keep vis, none⟩]) s.ctr) := by
 subst hf
 have hr : Ak s.low.length ro none = true := by cases ro <;> rfl
 simp only [evalOps, Ah, u5.addr, Option.map_none, hr, if_true, evalOp, h, target]
 cases C.call f (List.map LV.d a ++ List.map (St.val LP s) args ++ List.map LV.d b) (s.low ++ [⟨s.env.keep vis, none⟩]) s.ctr with
 | none => rfl
 | some p =>
  obtain ⟨v, low', c'⟩ := p
  simp only [LK]
  cases low'.getLast? with
  | none => rfl
  | some fr =>
   simp only
   by_cases hl : low'.length = s.low.length + 1
   ·simp only [if_pos hl]; rfl
   ·simp only [if_neg hl]
theorem iY (f : Nat) (a b : List DV) (args : List vD) (vis : List Nat) :
  evalOps LP C g (⟨t, .call (.con (.fn f a b)) args (some vis), none, ro⟩ :: r) s = LK LP C (g + 1) r s t vis (C.call f (a.map .d ++ args.map (s.val LP) ++ b.map .d) (s.low ++ [⟨s.env.keep vis, none⟩]) s.ctr) :=
 nu g r s t ro _ f a b _ args vis rfl rfl
end
theorem fq (LP : A2) (s : St) (n : Nat) : s.val LP (.glob n) = .d (.fptr (LP.globs n) 0) := rfl
def Rh (s : St) (r : Nat × Option (Option Nat)) : Option LV := (Ci s r).bind (freeze s.low.length s.env 9)
def vN (rs : List (Nat × Option (Option Nat))) (s : St) : Option LV := match rs.mapM (Rh s) with
 | some [x] => some x
 | some xs => some (LV.norm (.tup xs))
 | none => none
theorem AO {s : St} {r : Nat × Option (Option Nat)} {v : DV} (h : Rh s r = some (.d v)) : vN [r] s = some (.d v) := by
 simp [vN, h]
theorem BJ {s : St} {r1 r2 : Nat × Option (Option Nat)} {v1 v2 : DV} (h1 : Rh s r1 = some (.d v1)) (h2 : Rh s r2 = some (.d v2)) : vN [r1, r2] s = some (.d (.tup [v1, v2])) := by
 simp [vN, h1, h2, LV.norm, LV.toD, AU]
theorem U0 {s : St} {r1 r2 r3 : Nat × Option (Option Nat)} {v1 v2 v3 : DV} (h1 : Rh s r1 = some (.d v1)) (h2 : Rh s r2 = some (.d v2)) (h3 : Rh s r3 = some (.d v3)) : vN [r1, r2, r3] s = some (.d (.tup [v1, v2, v3])) := by
 simp [vN, h1, h2, h3, LV.norm, LV.toD, AU]
theorem AL {s : St} {t : Nat} {v : DV} (h : s.raw t = some (.v (.d v))) : Rh s (t, none) = some (.d v) := by
 simp only [Rh, Ci, IM, h]; rfl
theorem Zm {α : Type} [vG α] {s : St} {t : Nat} {x : Sl α} (h : s.raw t = some (.v x.lv)) : Rh s (t, none) = some (.d (vG.enc x)) := by
 simp only [Rh, Ci, IM, h, Ej, Jm]; cases x <;> rfl
theorem CU {α : Type} [Qx α] {s : St} {t g n : Nat} {x : α} (h : s.raw t = some (.box g ((vG.cells x).map .d))) (hn : vG.n α = n) : Rh s (t, some (some n)) = some (.d (vG.enc x)) := by
 have hl : ((vG.cells x).map LV.d).length = n := by rw [List.length_map, Fo.len, hn]
 have hc : ((vG.cells x).map LV.d).map LV.copy = (vG.cells x).map LV.d := by rw [List.map_map]; rfl
 simp only [St.raw] at h
 simp only [Rh, Ci, h, hl, if_true, hc, LV.norm, LV.toD, PO, Option.map_some, Option.bind_some, Qx.agg]
 rfl
theorem GK {s : St} {t g : Nat} {v : DV} (h : s.raw t = some (.box g [.d v])) : Rh s (t, some none) = some (.d v) := by
 simp only [St.raw] at h
 simp [Rh, Ci, h, LV.copy, freeze]
theorem Ue {α : Type} [vG α] {s : St} {t g : Nat} {x : Sl α} (h : s.raw t = some (.box g [x.lv])) : Rh s (t, some none) = some (.d (vG.enc x)) := by
 simp only [St.raw] at h
 cases x <;> simp [Rh, Ci, h, LV.copy, freeze, Sl.lv, vG.enc, Sl.dv]
def ul (lf : K7) (low : List Fr) (v : LV) (j : vI) (s : St) : Prop := (j = .normal ∨ j = .ret) ∧ s.low = low ∧ vN lf.results s = some v
theorem oY {LP : A2} {n : Nat} {lf : K7} {args : List LV} {low : List Fr} {ctr : Nat} {v : LV} {B : List Nat} (hf : LP.funcs n = some lf) (hl : args.length = lf.nparams)
  (hB : uY B { env := DG 0 args, low, ctr }) (h : ∀ s, (∀ t, s.raw t = (DG 0 args).get t) → s.low = low → uY B s → Run LP [] lf.body s (ul lf low v)) : ∃ ctr', nw LP n args low ctr v low ctr' := by
 obtain ⟨j, s', hc, hj, hl', hr⟩ := h { env := DG 0 args, low, ctr } (fun _ => rfl) rfl hB
 refine ⟨s'.ctr, ?_⟩
 have := nw.func (jmp := j) hf hl hc hj (v := v) hr
 rwa [hl'] at this
theorem Uj (args : List LV) (low : List Fr) (ctr : Nat) (B : List Nat) : uY B { env := DG 0 args, low, ctr } := by
 intro u _
 have main : ∀ (args : List LV) (k : Nat), St.free { env := DG k args, low, ctr } u = true := by
  intro args
  induction args with
  | nil => intro k; rfl
  | cons a args ih =>
   intro k
   simp only [DG]
   rw [kQ]
   split
   ·rfl
   ·exact ih (k + 1)
 exact main args 0
def Fin (LP : A2) (n : Nat) (ds : List DV) (v : DV) : Prop := ∀ low ctr, ∃ ctr', nw LP n (ds.map .d) low ctr (.d v) low ctr'
theorem Fin.call {LP : A2} {n : Nat} {ds : List DV} {v : DV} (h : Fin LP n ds v) : Ld (om LP) n ds = some (.d v) := by
 obtain ⟨c, he⟩ := h [] 0
 simp only [Ld, N9.mpr he]
 rfl
theorem HT {LP : A2} {n : Nat} {ds : List DV} {v : DV} (h : Fin LP n ds v) : ∃ c : List Fr → Nat → Nat, ∀ low ctr, (om LP).call n (ds.map LV.d) low ctr = some (.d v, low, c low ctr) := by
 have h' : ∀ (p : List Fr × Nat), ∃ c, (om LP).call n (ds.map LV.d) p.1 p.2 = some (.d v, p.1, c) := fun p => by
  obtain ⟨c, hc⟩ := h p.1 p.2
  exact ⟨c, N9.mpr hc⟩
 exact ⟨fun l c => (h' (l, c)).choose, fun l c => (h' (l, c)).choose_spec⟩
theorem sh {LP : A2} {n : Nat} {lf : K7} {ds : List DV} {v : DV} (B : List Nat) (hf : LP.funcs n = some lf) (hl : ds.length = lf.nparams)
  (h : ∀ low s, (∀ t, s.raw t = (DG 0 (ds.map LV.d)).get t) → s.low = low → uY B s → Run LP [] lf.body s (ul lf low (.d v))) : Fin LP n ds v := by
 intro low ctr
 exact oY (B := B) hf (by simpa using hl) (Uj _ _ _ _) (h low)
def HD (low : List Fr) (j t : Nat) : Option BE := match low[j]? with
 | some fr => fr.env.get t
 | none => none
theorem eK {low : List Fr} {j t : Nat} {x : BE} (h : HD low j t = some x) : j < low.length := by
 simp only [HD] at h
 by_cases hj : j < low.length
 ·exact hj
 ·rw [List.getElem?_eq_none (by omega)] at h; cases h
theorem F6 {low : List Fr} {fr : Fr} {j t : Nat} {x : BE} (h : HD low j t = some x) : HD (low ++ [fr]) j t = some x := by
 have := eK h
 simp only [HD] at h ⊢
 rw [List.getElem?_append_left this]; exact h
theorem P9 {low : List Fr} {e : uI} {l : Option J8} {t : Nat} {x : BE} (h : uI.get t e = some x) : HD (low ++ [⟨e, l⟩]) low.length t = some x := by
 simp only [HD]
 rw [List.getElem?_append_right (Nat.le_refl _), Nat.sub_self]; exact h
theorem EE {low : List Fr} {j t g : Nat} {cs : List LV} (h : HD low j t = some (.box g cs)) (s : St) (k : Option Nat) (off : Nat) (hl : s.low = low) : Og s k none (.ptr j t g off) = part k off cs := by
 subst hl
 have hj := eK h
 have hc : s.cells j t g = some cs := by
  simp only [St.cells, St.at, if_neg (show ¬ j = s.low.length by omega)]
  simp only [HD] at h
  cases hx : s.low[j]? with
  | none => rw [hx] at h; cases h
  | some fr => rw [hx] at h; simp only at h ⊢; rw [h]; simp
 simp only [Og, Ak, if_true, hc]
theorem UR (s : St) (k : Option Nat) (ro : Option (Option Nat)) (cs : List LV) (off : Nat) : Og s k ro (.fptr cs off) = part k off cs := by
 have h : Ak s.low.length ro (some (.fptr cs off)) = true := by cases ro <;> rfl
 simp only [Og, h, if_true]
theorem BQ (k : Option Nat) (off g : Nat) (cs : List LV) : GM k off g (some (.box g cs)) = part k off cs := by simp only [GM, if_true]
theorem Cj (x : LV) : part none 0 [x] = some x.copy := rfl
theorem HU (f : Nat) (a b : List LV) : part none 0 [LV.fn f a b] = some (.fn f a b) := rfl
theorem j7 (s : St) (t : Nat) : uI.get t s.env = s.raw t := rfl
theorem get_keep (ks : List Nat) (e : uI) (t : Nat) : uI.get t (uI.keep ks e) = if ks.contains t then uI.get t e else none := Im ..
def JO (LP : A2) (n : Nat) (args : List LV) (low : List Fr) (v : LV) : Prop := ∀ ctr, ∃ ctr', nw LP n args low ctr v low ctr'
noncomputable def QZ (LP : A2) (n : Nat) (args : List LV) (low : List Fr) (ctr : Nat) : Nat := match (om LP).call n args low ctr with
 | some (_, _, c) => c
 | none => 0
theorem JO.om {LP : A2} {n : Nat} {args : List LV} {low : List Fr} {v : LV} (h : JO LP n args low v) (ctr : Nat) : (om LP).call n args low ctr = some (v, low, QZ LP n args low ctr) := by
 obtain ⟨c, hc⟩ := h ctr
 have := N9.mpr hc
 simp only [QZ, this]
theorem Fin.low {LP : A2} {n : Nat} {ds : List DV} {v : DV} (h : Fin LP n ds v) (low : List Fr) : JO LP n (ds.map .d) low (.d v) := h low
theorem JO.call {LP : A2} {n : Nat} {ds : List DV} {v : DV} (h : JO LP n (ds.map .d) [] (.d v)) : Ld (Lf.om LP) n ds = some (.d v) := by
 obtain ⟨c, he⟩ := h 0
 simp only [Ld, N9.mpr he]
 rfl
theorem rZ {LP : A2} {n : Nat} {lf : K7} {args : List LV} {low : List Fr} {v : LV} (B : List Nat) (hf : LP.funcs n = some lf) (hl : args.length = lf.nparams)
  (h : ∀ s, (∀ t, s.raw t = (DG 0 args).get t) → s.low = low → uY B s → Run LP [] lf.body s (ul lf low v)) : JO LP n args low v := by
 intro ctr
 exact oY (B := B) hf hl (Uj _ _ _ _) h
def pr (LP : A2) (C : AP) (g : Nat) (r : List AG) (s : St) (t : Option Nat) (ro : Option (Option Nat)) (u : Nat) (args : List vD) (vis : List Nat) : Option (Nat × List LV × List LV) → Option St
 | some (f, a, b) => LK LP C (g + 1) r s t vis (C.call f (a ++ args.map (s.val LP) ++ b) (s.low ++ [⟨s.env.keep vis, none⟩]) s.ctr)
 | none => evalOps LP C g (⟨t, .call (.tmp u) args (some vis), none, ro⟩ :: r) s
theorem qY (LP : A2) (C : AP) (g : Nat) (r : List AG) (s : St) (t : Option Nat) (ro : Option (Option Nat)) (u : Nat) (args : List vD) (vis : List Nat) (f : Nat) (a b : List LV) :
 pr LP C g r s t ro u args vis (some (f, a, b)) = LK LP C (g + 1) r s t vis (C.call f (a ++ args.map (s.val LP) ++ b) (s.low ++ [⟨s.env.keep vis, none⟩]) s.ctr) := rfl
theorem mg {LP : A2} {C : AP} (g : Nat) (r : List AG) (s : St) (t : Option Nat) (ro : Option (Option Nat)) (u : Nat) (args : List vD) (vis : List Nat) :
  evalOps LP C g (⟨t, .call (.tmp u) args (some vis), none, ro⟩ :: r) s = pr LP C g r s t ro u args vis (target (s.slot u)) := by
 cases ht : target (s.slot u) with
 | none => rfl
 | some p =>
  obtain ⟨f, a, b⟩ := p
  have hr : Ak s.low.length ro none = true := by cases ro <;> rfl
  have hy : ∀ j g', s.slot u ≠ .yield j g' := by intro j g' e; rw [e] at ht; cases ht
  simp only [evalOps, Ah, u5.addr, Option.map_none, hr, if_true, evalOp, St.val, pr]
  cases hs : s.slot u with
  | yield j g' => exact absurd hs (hy j g')
  | _ =>
   rw [hs] at ht
   simp only [ht]
   cases C.call f (a ++ List.map (s.val LP) args ++ b) (s.low ++ [⟨s.env.keep vis, none⟩]) s.ctr with
   | none => rfl
   | some p =>
    obtain ⟨v, low', c'⟩ := p
    simp only [LK]
    cases low'.getLast? with
    | none => rfl
    | some fr =>
     simp only
     by_cases hl : low'.length = s.low.length + 1
     ·simp only [if_pos hl]; rfl
     ·simp only [if_neg hl]
def ki (C : AP) (f : Nat) (a b : List DV) : Option (List DV) → Option LV
 | some ds => Ld C f (a ++ ds ++ b)
 | none => none
theorem Rb (C : AP) (f : Nat) (a b ds : List DV) : ki C f a b (some ds) = Ld C f (a ++ ds ++ b) := rfl
theorem XE (C : AP) (f : Nat) (a b : List DV) (args : List LV) : du C (.d (.fn f a b)) args = ki C f a b (AU args) := by
 simp only [du, target]
 cases AU args with
 | none => rfl
 | some ds => simp only [PO]; rfl
theorem S5 (f : Nat) (a b : List DV) : target (.d (.fn f a b)) = some (f, a.map .d, b.map .d) := rfl
theorem PW (f : Nat) (a b : List LV) : target (.fn f a b) = some (f, a, b) := rfl
theorem bJ (c : LV) (f : Nat) (x y : List LV) : D5 1 0 [.fn f x y] [c] = some [.fn f x y] := Em c rfl
theorem X5 (c : LV) (f : Nat) (x y : List DV) : D5 1 0 [.d (.fn f x y)] [c] = some [.d (.fn f x y)] := Em c rfl
theorem VR (f : Nat) (x y : List LV) : LV.known (.fn f x y) = some [.fn f x y] := rfl
theorem dI (f : Nat) (x y : List DV) : LV.known (.d (.fn f x y)) = some [.d (.fn f x y)] := rfl
theorem Tj : LV.known (.d .nilfn) = some [.d .nilfn] := rfl
theorem M1 {LP : A2} {C : AP} (g : Nat) (r : List AG) (s : St) (n t g' off u : Nat) (f : Nat) (a b : List LV) (h : s.raw u = some (.v (.fn f a b))) :
  Qz LP C g r s n t g' off (.tmp u) (some (.v (.fn f a b))) = ec LP C g r ((FU n off g' (some [.fn f a b]) (s.raw t)).map fun x => s.upd t x) := by
 show Hh LP C g r s n (.ptr s.low.length t g' off) (.tmp u) = _
 have ht : s.take LP (.tmp u) = (.fn f a b, s) := by
  unfold St.raw at h
  simp only [St.take, h, St.slot, LV.copy]
 simp only [Hh, ht, Hm, VR]
 cases hr : s.raw t with
 | none => rfl
 | some z => cases z with
  | box g2 cs =>
   simp only [FU]
   by_cases hg : g2 = g'
   ·subst hg
    simp only [if_true]
    by_cases hc : [LV.fn f a b].length = n ∧ off + n ≤ cs.length ∧ [LV.fn f a b].all LV.cellOk = true
    ·simp only [if_pos hc, Option.map_some, St.setAt, if_true, St.upd]
    ·simp only [if_neg hc, Option.map_none]
   ·simp only [if_neg hg]; rfl
  | _ => rfl
def aS (f : Nat) (a b : List LV) : Option (List DV) → Option (List DV) → LV
 | some x, some y => .d (.fn f x y)
 | _, _ => .fn f a b
theorem Yx (f : Nat) (a b : List LV) : LV.norm (.fn f a b) = aS f a b (AU a) (AU b) := by
 simp only [LV.norm, LV.toD, aS]
 cases AU a <;> cases AU b <;> rfl
theorem Of (f : Nat) (a b : List LV) (x y : List DV) : aS f a b (some x) (some y) = .d (.fn f x y) := rfl
theorem O3 (f : Nat) (a b : List LV) (y : Option (List DV)) : aS f a b none y = .fn f a b := by cases y <;> rfl
theorem P0 (f : Nat) (a b : List LV) (x : Option (List DV)) : aS f a b x none = .fn f a b := by cases x <;> rfl
theorem fJ (j t g o : Nat) (r : List LV) : AU (.ptr j t g o :: r) = none := rfl
theorem sE (f : Nat) (a b r : List LV) (h : LV.toD (.fn f a b) = none) : AU (.fn f a b :: r) = none := by simp only [AU, h]
theorem HJ (k t f : Nat) (a b : List LV) : Kv k t (.v (.fn f a b)) = .fn f a b := rfl
theorem cQ (k t : Nat) (a : List LV) : Kv k t (.v (.agg a)) = .agg a := rfl
theorem XG (k t o : Nat) (a : List LV) : Kv k t (.v (.fptr a o)) = .fptr a o := rfl
theorem j4 (f : Nat) (a b : List LV) : XL 1 (.fn f a b) = some [.fn f a b] := rfl
theorem iH (f : Nat) (a b : List DV) : XL 1 (.d (.fn f a b)) = some [.d (.fn f a b)] := rfl
theorem gl (s : St) (n : Nat) : (s.tick n).ctr = s.ctr + n := rfl
theorem kh (a b : Bool) : rh false (.d (.bool a)) (.d (.bool b)) = some (.d (.bool (a == b))) := rfl
theorem li (a b : Bool) : rh true (.d (.bool a)) (.d (.bool b)) = some (.d (.bool (a != b))) := rfl
theorem bC (a b : Nat) (l : List Nat) : (a :: l).contains b = if b = a then true else l.contains b := by
 rw [List.contains_cons]
 by_cases h : b = a
 ·subst h; simp
 ·rw [if_neg h, show (b == a) = false from by simpa using h, Bool.false_or]
theorem bN (b : Nat) : ([] : List Nat).contains b = false := rfl
theorem kP {P : St → Prop} (s : St) : (∃ s1, some s = some s1 ∧ P s1) = P s := by simp
theorem uD {B : List Nat} {s : St} (h : uY B s) : ∀ u, B.contains u = false → s.free u = true := h
theorem iP (s : St) (u : Nat) : jP s (.tmp u) = s.raw u := rfl
theorem iE (s : St) (v : DV) : jP s (.con v) = some (.v (.d v)) := rfl
theorem rK (x : LV) : (BE.v x).isV = true := rfl
theorem qg (g : Nat) (cs : List LV) : (BE.box g cs).isV = false := rfl
theorem qx (g n : Nat) (es : List (List Int × LV)) : (BE.mapo g n es).isV = false := rfl
theorem BX {α : Type} [Qx α] (x : α) {n : Nat} (h : vG.n α = n) : Ax (some n) 0 (vG.cells x) = some (vG.enc x) := by
 have := Fo.len x
 simp only [Ax, List.drop_zero]
 rw [List.take_of_length_le (by omega), if_pos (by omega), Qx.agg]
def uO (op : BinOp) (a b : Int) : Option Int := match Bm (binOp op 0 (.int .i64 a) (.int .i64 b)) with
 | some (.int n) => some n
 | _ => none
theorem M8 {op : BinOp} {a b n : Int} (h : uO op a b = some n) : fj op (.d (.int a)) (.d (.int b)) = some (.d (.int n)) := by
 unfold uO at h
 split at h
 ·rename_i m hm
  cases h
  simp only [fj, QF, hm, Option.map_some]
 ·cases h
def QC {α : Type} [vG α] : Nat → List α → List (Nat × Nat × LV)
 | _, [] => []
 | i, a :: l => (i, vG.n α, .d (vG.enc a)) :: QC (i + vG.n α) l
theorem fP {α : Type} [Qx α] : ∀ (l : List α) (d r : List LV), r.length = l.length * vG.n α → CJ (QC d.length l) (d ++ r) = some (d ++ (l.flatMap vG.cells).map LV.d)
 | [], d, r, h => by
  simp only [List.length_nil, Nat.zero_mul, List.length_eq_zero_iff] at h
  subst h
  simp [QC, CJ]
 | a :: l, d, r, h => by
  have hl : ((vG.cells a).map LV.d).length = vG.n α := by rw [List.length_map, Fo.len]
  have hr : vG.n α ≤ r.length := by rw [h, List.length_cons, Nat.add_mul]; omega
  simp only [QC, CJ, O5]
  rw [if_pos ⟨hl, by rw [List.length_append]; omega⟩]
  have hs : setCells (d ++ r) d.length ((vG.cells a).map LV.d) = (d ++ (vG.cells a).map LV.d) ++ r.drop (vG.n α) := by
   rw [setCells, List.take_left' rfl, hl, ← List.drop_drop, List.drop_left' rfl]
  have hd : d.length + vG.n α = (d ++ (vG.cells a).map LV.d).length := by rw [List.length_append, hl]
  rw [hs, hd, fP l (d ++ (vG.cells a).map LV.d) (r.drop (vG.n α)) (by rw [List.length_drop, h, List.length_cons, Nat.add_mul]; omega)]
  simp
theorem aQ {α : Type} [Fo α] : ∀ (l : List α) (k : Nat) (v : α), l[k]? = some v → ((l.flatMap vG.cells).drop (k * vG.n α)).take (vG.n α) = vG.cells v
 | [], k, v, h => by simp at h
 | a :: l, 0, v, h => by
  simp only [List.getElem?_cons_zero, Option.some.injEq] at h
  subst h
  have := Fo.len a
  simp only [List.flatMap_cons, Nat.zero_mul, List.drop_zero]
  rw [List.take_append_of_le_length (by omega), List.take_of_length_le (by omega)]
 | a :: l, k + 1, v, h => by
  simp only [List.getElem?_cons_succ] at h
  have := Fo.len a
  rw [← aQ l k v h]
  simp only [List.flatMap_cons]
  rw [List.drop_append, List.drop_of_length_le (by rw [this, Nat.add_mul]; omega), List.nil_append, this, Nat.add_mul, Nat.one_mul, Nat.add_sub_cancel]
theorem jj {α β : Type} (f : Nat → Option β) (g : α → β) (l : List α) (h : ∀ (i : Nat) (v : α), l[i]? = some v → f i = some (g v)) : (List.range l.length).mapM f = some (l.map g) := by
 have main : ∀ (k : Nat), k ≤ l.length → (List.range' (l.length - k) k).mapM f = some ((l.drop (l.length - k)).map g) := by
  intro k
  induction k with
  | zero => intro _; simp
  | succ k ih =>
   intro hk
   have hlt : l.length - (k + 1) < l.length := by omega
   rw [List.range'_succ, List.mapM_cons, h _ _ (List.getElem?_eq_getElem hlt)]
   have e : l.length - (k + 1) + 1 = l.length - k := by omega
   rw [e, ih (by omega), List.drop_eq_getElem_cons hlt, e]
   rfl
 have := main l.length (Nat.le_refl _)
 rw [Nat.sub_self] at this
 rw [List.range_eq_range']
 simpa using this
theorem G7 {α : Type} [Qx α] (l : List α) {zs : List DV} {n sz : Nat} {ps : List (Nat × Nat × LV)} (hz : zs.length = vG.n α) (hp : (n, sz, ps) = (l.length, vG.n α, QC 0 l)) : V1 (some sz) zs n ps = some (Sl.hot l).lv := by
 simp only [Prod.mk.injEq] at hp
 obtain ⟨rfl, rfl, rfl⟩ := hp
 have hr : (((List.replicate l.length zs).flatten).map LV.d).length = l.length * vG.n α := by simp [hz]
 have := fP l [] _ hr
 simp only [List.length_nil, List.nil_append] at this
 simp only [V1, this, eU, if_true, PO, Option.getD_some]
 rw [jj (fun i => Ax (some (vG.n α)) (i * vG.n α) (l.flatMap vG.cells)) vG.enc l]
 ·rfl
 ·intro i v hv
  simp only [Ax, aQ l i v hv, Fo.len, if_true, Qx.agg]
structure T3 (α β γ : Type) where
 a : α
 b : β
 c : γ
instance {α β γ : Type} [vG α] [vG β] [vG γ] : vG (T3 α β γ) := ⟨1, fun x => [.tup [vG.enc x.a, vG.enc x.b, vG.enc x.c]], fun x => .tup [vG.enc x.a, vG.enc x.b, vG.enc x.c], fun _ => rfl⟩
theorem kY {α β γ : Type} [vG α] [vG β] [vG γ] (x : T3 α β γ) : nG 0 (some (.v (.d (vG.enc x)))) = some (.d (vG.enc x.a)) ∧ nG 1 (some (.v (.d (vG.enc x)))) = some (.d (vG.enc x.b)) ∧ nG 2 (some (.v (.d (vG.enc x)))) = some (.d (vG.enc x.c)) := ⟨rfl, rfl, rfl⟩
def Mp.get {n : Nat} {α : Type} (m : Mp n α) (k : List Int) : Option α := match m with
 | .nil => none
 | .mk es => (AM k es 0).map (·.2)
theorem Lh {α β : Type} (f : α → β) (k : List Int) : ∀ (es : List (List Int × α)) (i : Nat), AM k (es.map fun p => (p.1, f p.2)) i = (AM k es i).map fun p => (p.1, f p.2)
 | [], _ => rfl
 | (k', v) :: es, i => by
  simp only [List.map_cons, AM]
  by_cases h : k' = k
  ·simp [h]
  ·simp only [if_neg h]; exact Lh f k es (i + 1)
theorem Qd {α : Type} [BZ α] {n : Nat} (x : α) (hn : vG.n α = n) (h1 : n ≠ 1) : LV.key n (.d (vG.enc x)) = some (BZ.key x) := by
 have hl := Fo.len x
 rw [BZ.hkey, List.length_map] at hl
 have hi : ∀ l : List Int, DV.ints (l.map .int) = some l := by
  intro l; induction l with
  | nil => rfl
  | cons a l ih => simp [DV.ints, ih]
 rw [Qx.agg, BZ.hkey]
 simp only [LV.key, hi]
 rw [if_pos ⟨by omega, h1⟩]
theorem Xq {α : Type} [BZ α] (x : α) : LV.aggKey (.d (vG.enc x)) = some (BZ.key x) := by
 have hi : ∀ l : List Int, DV.ints (l.map .int) = some l := by
  intro l; induction l with
  | nil => rfl
  | cons a l ih => simp [DV.ints, ih]
 rw [Qx.agg, BZ.hkey]
 simp only [LV.aggKey, hi]
theorem IX {α : Type} [BZ α] (x y : α) (n : Nat) (hn : vG.n α = n) : pJ false n (.d (vG.enc x)) (.d (vG.enc y)) = some (.d (.bool (decide (BZ.key x = BZ.key y)))) := by
 have hx := Fo.len x
 have hy := Fo.len y
 rw [BZ.hkey, List.length_map] at hx hy
 simp [pJ, Xq, hx, hy, hn]
theorem IQ {α : Type} [BZ α] (x y : α) (n : Nat) (hn : vG.n α = n) : pJ true n (.d (vG.enc x)) (.d (vG.enc y)) = some (.d (.bool (!decide (BZ.key x = BZ.key y)))) := by
 have hx := Fo.len x
 have hy := Fo.len y
 rw [BZ.hkey, List.length_map] at hx hy
 simp [pJ, Xq, hx, hy, hn]
theorem lO {n : Nat} {α : Type} [vG α] (m : Mp n α) (k : LV) (key : List Int) (z : DV) (hk : k.key n = some key) : Oj n false z (.d (vG.enc m)) k = some (.d (((m.get key).map vG.enc).getD z)) := by
 cases m with
 | nil => simp only [Oj, hk, vG.enc, Mp.dv]; rfl
 | mk es =>
  simp only [Oj, hk, vG.enc, Mp.dv, if_true, Mp.get, Lh]
  cases AM key es 0 <;> rfl
theorem ZQ {n : Nat} {α κ : Type} [vG α] [BZ κ] (s : St) (ro : Option (Option Nat)) (m : Mp n α) (k : κ) (z : α) (zd : DV) (hn : vG.n κ = n) (h1 : n ≠ 1) (hz : vG.enc z = zd) : nQ s n false zd ro (.d (vG.enc m)) (.d (vG.enc k)) = some (.d (vG.enc ((m.get (BZ.key k)).getD z))) := by
 have e := lO m (.d (vG.enc k)) (BZ.key k) zd (Qd k hn h1)
 have hr : Ak s.low.length ro (some (.d (vG.enc m))) = true := Td _ _ _
 simp only [nQ, hr, if_true]
 rw [e, ← hz]
 cases m.get (BZ.key k) <;> rfl
theorem dm (a b : Int) : uK false [.d (.int a), .d (.int b)] = some (.d (.int (min a b))) := by
 simp only [uK, minmax, Nq, QF, List.foldl_cons, List.foldl_nil, Option.map_some, Bool.false_eq_true, if_false, Option.some.injEq, LV.d.injEq, DV.int.injEq]
 split <;> omega
theorem sw (a b : Int) : uK true [.d (.int a), .d (.int b)] = some (.d (.int (max a b))) := by
 simp only [uK, minmax, Nq, QF, List.foldl_cons, List.foldl_nil, Option.map_some, if_true, Option.some.injEq, LV.d.injEq, DV.int.injEq]
 split <;> omega
theorem sT (a : Int) : vE .neg (.d (.int a)) = some (.d (.int (W (0 - a)))) := rfl
section
variable {n : Nat} {α : Type} {x : Ar n α} {i : Int} {v : α}
theorem nn (h : x.ix i = some v) : 0 ≤ i ∧ i.toNat < n := by
 unfold Ar.ix at h
 split at h
 ·rename_i hi
  obtain ⟨hl, _⟩ := List.getElem?_eq_some_iff.mp h
  exact ⟨hi, x.h ▸ hl⟩
 ·cases h
theorem DY (h : x.ix i = some v) (sz j t g o : Nat) : T0 sz n (.ptr j t g o) (.d (.int i)) = some (.ptr j t g (o + i.toNat * sz)) := by
 obtain ⟨h1, h2⟩ := nn h
 simp [T0, E8, h1, h2, IS]
theorem rQ (h : x.ix i = some v) : x.l[i.toNat]? = some v := by
 unfold Ar.ix at h
 split at h
 ·exact h
 ·cases h
variable [Fo α]
theorem iZ : ∀ (l : List α) (k : Nat) (v : α), l[k]? = some v → ((l.flatMap vG.cells).drop (k * vG.n α)).take (vG.n α) = vG.cells v
 | [], k, v, h => by simp at h
 | a :: l, 0, v, h => by
  simp only [List.getElem?_cons_zero, Option.some.injEq] at h
  subst h
  have := Fo.len a
  simp only [List.flatMap_cons, Nat.zero_mul, List.drop_zero]
  rw [List.take_append_of_le_length (by omega), List.take_of_length_le (by omega)]
 | a :: l, k + 1, v, h => by
  simp only [List.getElem?_cons_succ] at h
  have := Fo.len a
  rw [← iZ l k v h]
  simp only [List.flatMap_cons]
  rw [List.drop_append, List.drop_of_length_le (by rw [this, Nat.add_mul]; omega), List.nil_append, this, Nat.add_mul, Nat.one_mul, Nat.add_sub_cancel]
theorem kt (h : x.ix i = some v) : ((vG.cells x).drop (i.toNat * vG.n α)).take (vG.n α) = vG.cells v := iZ x.l i.toNat v (rQ h)
theorem CG (h : x.ix i = some v) (h1 : vG.n α = 1) (hc : vG.cells v = [vG.enc v]) : Ax none (0 + i.toNat * 1) (vG.cells x) = some (vG.enc v) := by
 have := kt h
 rw [h1, hc] at this
 simp only [Ax, Nat.zero_add]
 have h2 : ((vG.cells x).drop (i.toNat * 1))[0]? = some (vG.enc v) := by
  have h3 : (((vG.cells x).drop (i.toNat * 1)).take 1)[0]? = some (vG.enc v) := by rw [this]; rfl
  rwa [List.getElem?_take_of_lt (by omega)] at h3
 rw [List.getElem?_drop] at h2
 simpa using h2
theorem fk {α : Type} [Qx α] {x : Ar n α} {v : α} (h : x.ix i = some v) {sz : Nat} (hz : vG.n α = sz) : Ax (some sz) (0 + i.toNat * sz) (vG.cells x) = some (vG.enc v) := by
 subst hz
 have := kt h
 simp only [Ax, Nat.zero_add, this, Fo.len, if_true, Qx.agg]
theorem rS (h : x.ix i = some v) (h1 : vG.n α = 1) (hc : vG.cells v = [vG.enc v]) : RJ none 1 n (.d (vG.enc x)) (.d (.int i)) = some (.d (vG.enc v)) := by
 obtain ⟨h2, h3⟩ := nn h
 have e := CG h h1 hc
 rw [Nat.zero_add] at e
 simp only [RJ, E8, h2, if_true, h3, MP, e]
 rfl
theorem rJ {α : Type} [Qx α] {x : Ar n α} {v : α} (h : x.ix i = some v) {sz : Nat} (hz : vG.n α = sz) : RJ (some sz) sz n (.d (vG.enc x)) (.d (.int i)) = some (.d (vG.enc v)) := by
 obtain ⟨h2, h3⟩ := nn h
 have e := fk h hz
 rw [Nat.zero_add] at e
 simp only [RJ, E8, h2, if_true, h3, MP, e]
 rfl
end
theorem ov {n : Nat} {x : Ar n Int} {i v : Int} (h : x.ix i = some v) (y : Int) : D5 1 (0 + i.toNat * 1) [.d (.int y)] ((vG.cells x).map LV.d) = some ((vG.cells (x.put i y)).map LV.d) := by
 obtain ⟨h1, h2⟩ := nn h
 have hl : ((vG.cells x).map LV.d).length = n := by rw [List.length_map, Fo.len]; exact Nat.mul_one n
 have hc : vG.cells x = x.l.map DV.int := TI x.l
 have hc2 : vG.cells (x.put i y) = (x.l.set i.toNat y).map DV.int := TI _
 simp only [D5, hl, List.length_cons, List.length_nil, Nat.zero_add, Nat.mul_one]
 rw [if_pos ⟨trivial, by omega, rfl⟩, hc, hc2, List.map_set, List.map_set]
 congr 1
 have hlt : i.toNat < (List.map LV.d (List.map DV.int x.l)).length := by simp [x.h, h2]
 rw [setCells, List.set_eq_take_append_cons_drop, if_pos hlt]
 simp
theorem QY {LP : A2} {C : AP} {α : Type} [vG α] (g : Nat) (r : List AG) (s : St) (n t g' off u : Nat) (x : Sl α) (h : s.raw u = some (.v x.lv)) (hut : (s.upd u (.v x.spent.lv)).raw t = s.raw t) :
  Qz LP C g r s n t g' off (.tmp u) (some (.v x.lv)) = ec LP C g r ((FU n off g' (some [x.lv]) (s.raw t)).map fun b => (s.upd u (.v x.spent.lv)).upd t b) := by
 cases x with
 | hot xs =>
  show ec LP C g r (Option.map _ (FU n off g' (some [(Sl.hot xs).lv]) (if u = t then _ else s.raw t))) = _
  rw [Ae] at hut
  by_cases hu : u = t
  ·subst hu
   rw [if_pos rfl] at hut ⊢
   rw [← hut]; rfl
  ·rw [if_neg hu]; rfl
 | nil =>
  rw [show (Sl.nil : Sl α).spent = Sl.nil from rfl, Du s u _ h]; rfl
 | cold xs =>
  rw [show (Sl.cold xs).spent = Sl.cold xs from rfl, Du s u _ h]; rfl
 | full xs =>
  rw [show (Sl.full xs).spent = Sl.full xs from rfl, Du s u _ h]
  have ht : s.take LP (.tmp u) = ((Sl.full xs).lv, s) := by
   unfold St.raw at h
   simp only [St.take, h, Sl.lv, St.slot, LV.copy]
  show Hh LP C g r s n (.ptr s.low.length t g' off) (.tmp u) = _
  simp only [Hh, ht, Hm, TD]
  cases hr : s.raw t with
  | none => rfl
  | some z => cases z with
   | box g2 cs =>
    simp only [FU]
    by_cases hg : g2 = g'
    ·subst hg
     simp only [if_true]
     by_cases hc : [(Sl.full xs).lv].length = n ∧ off + n ≤ cs.length ∧ [(Sl.full xs).lv].all LV.cellOk = true
     ·simp only [if_pos hc, Option.map_some, St.setAt, if_true, St.upd]
     ·simp only [if_neg hc, Option.map_none]
    ·simp only [if_neg hg]; rfl
   | _ => rfl
theorem qV {α : Type} [vG α] (x : Sl α) (g : Nat) : GM none 0 g (some (.box g [x.lv])) = some x.spent.lv := by cases x <;> simp [GM, part, LV.copy, Sl.lv, Sl.spent]
class E5 (α : Type) extends Fo α where
 elv : α → LV
 coolE : α → α
 hd : ∀ x, (elv x).toD = some (vG.enc x)
 hc : ∀ x, (elv x).cool = elv (coolE x)
 hcp : ∀ x, (elv x).copy = elv (coolE x)
 he : ∀ x, vG.enc (coolE x) = vG.enc x
 hf : ∀ k env d x, freeze k env (d + 1) (elv x) = some (.d (vG.enc x))
instance {α : Type} [vG α] : E5 (Sl α) := ⟨Sl.lv, Sl.spent, fun x => oC x, fun x => by cases x <;> rfl, fun x => by cases x <;> rfl, fun x => by cases x <;> rfl, fun _ _ _ x => by cases x <;> rfl⟩
instance : E5 Int := ⟨fun x => .d (.int x), id, fun _ => rfl, fun _ => rfl, fun _ => rfl, fun _ => rfl, fun _ _ _ _ => rfl⟩
instance : E5 Bool := ⟨fun x => .d (.bool x), id, fun _ => rfl, fun _ => rfl, fun _ => rfl, fun _ => rfl, fun _ _ _ _ => rfl⟩
section
variable {α : Type}
def EI (es : List (List Int × α)) (k : List Int) (v : α) : List (List Int × α) := match AM k es 0 with
 | some (i, _) => es.set i (k, v)
 | none => es ++ [(k, v)]
def LH (z : α) (es : List (List Int × α)) (k : List Int) : α := match AM k es 0 with
 | some (_, v) => v
 | none => z
def Fg (es : List (List Int × α)) (k : List Int) : Int := match AM k es 0 with
 | some (i, _) => i
 | none => es.length
def EY (z : α) (c : α → α) (es : List (List Int × α)) (k : List Int) : List (List Int × α) := match AM k es 0 with
 | some (i, v) => es.set i (k, c v)
 | none => es ++ [(k, z)]
theorem KO (k : List Int) : ∀ (es : List (List Int × α)) (b i : Nat) (v : α), AM k es b = some (i, v) → b ≤ i ∧ i < b + es.length ∧ es[i - b]? = some (k, v)
 | [], b, i, v, h => by simp [AM] at h
 | (k', x) :: es, b, i, v, h => by
  simp only [AM] at h
  by_cases hk : k' = k
  ·rw [if_pos hk] at h
   simp only [Option.some.injEq, Prod.mk.injEq] at h
   obtain ⟨rfl, rfl⟩ := h
   simp [hk]
  ·rw [if_neg hk] at h
   obtain ⟨h1, h2, h3⟩ := KO k es (b + 1) i v h
   refine ⟨by omega, by simp only [List.length_cons]; omega, ?_⟩
   rw [show i - b = (i - (b + 1)) + 1 by omega, List.getElem?_cons_succ]; exact h3
variable [E5 α]
def DK (es : List (List Int × α)) : List (List Int × LV) := es.map fun p => (p.1, E5.elv p.2)
theorem ZR (k : List Int) (es : List (List Int × α)) : AM k (DK es) 0 = (AM k es 0).map fun p => (p.1, E5.elv p.2) := Lh E5.elv k es 0
theorem nc (es : List (List Int × α)) (k : List Int) (v : α) : (match AM k (DK es) 0 with
  | some (i, _) => (DK es).set i (k, E5.elv v)
  | none => DK es ++ [(k, E5.elv v)]) = DK (EI es k v) := by
 rw [ZR]
 simp only [EI]
 cases AM k es 0 with
 | none => simp [DK]
 | some p => simp [DK, List.map_set]
theorem Nv (s : St) (t g n : Nat) (es : List (List Int × LV)) (h : s.raw t = some (.mapo g n es)) : s.entries s.low.length t g n = some es := by
 simp only [St.raw] at h
 simp [St.entries, St.at, h]
theorem PK (s : St) (t : Nat) (x : BE) : s.setAt s.low.length t x = s.upd t x := by simp [St.setAt, St.upd]
variable {LP : A2} {C : AP}
def aK (LP : A2) (s : St) (x : vD) (v : LV) (s' : St) : Prop := s.take LP x = (v, s')
theorem d6 {s : St} {x : vD} {v : DV} (h : jP s x = some (.v (.d v))) : aK LP s x (.d v) s := by
 cases x with
 | con w => simp only [jP, Option.some.injEq, BE.v.injEq, LV.d.injEq] at h; subst h; rfl
 | glob n => simp [jP] at h
 | tmp u => simp only [jP, St.raw] at h; simp only [aK, St.take, h, St.slot, LV.copy]
theorem S1 {β : Type} [vG β] {s : St} {u : Nat} {x : Sl β} (h : s.raw u = some (.v x.lv)) : aK LP s (.tmp u) x.lv (s.upd u (.v x.spent.lv)) := by
 have hs : s.slot u = x.spent.lv := by rw [G8, h]; exact Jm x _ _
 simp only [aK, St.take]
 have h' := h
 simp only [St.raw] at h
 cases x with
 | hot xs => rw [h]; rfl
 | nil => rw [show (Sl.nil : Sl β).spent = Sl.nil from rfl, Du s u _ h', h]; simp only [hs]; rfl
 | cold xs => rw [show (Sl.cold xs).spent = Sl.cold xs from rfl, Du s u _ h', h]; simp only [hs]; rfl
 | full xs => rw [show (Sl.full xs).spent = Sl.full xs from rfl, Du s u _ h', h]; simp only [hs]; rfl
theorem Oh (g : Nat) (r : List AG) (s s1 : St) (tt : Option Nat) (ro : Option (Option Nat)) (n t gm : Nat) (m k v : vD) (key : List Int) (es : List (List Int × α)) (a : α)
  (hm : s.val LP m = .mref s.low.length t gm) (hr : Ak s.low.length ro (some (.mref s.low.length t gm)) = true) (hk : (s.val LP k).key n = some key) (hv : aK LP s v (E5.elv a) s1) (hl : s1.low = s.low) (he : s1.raw t = some (.mapo gm n (DK es))) :
  evalOps LP C g (⟨tt, .mapset n m k v, none, ro⟩ :: r) s = evalOps LP C (g + 1) r (s1.upd t (.mapo gm n (DK (EI es key a)))) := by
 have h1 : s1.entries s.low.length t gm n = some (DK es) := by rw [← hl]; exact Nv s1 t gm n _ he
 have h2 : ∀ x, s1.setAt s.low.length t x = s1.upd t x := fun x => by rw [← hl]; exact PK s1 t x
 simp only [evalOps, Ah, u5.addr, Option.map_some, hm, hr, if_true, evalOp, hk]
 unfold aK at hv
 simp only [hv, h1, h2]
 rw [← nc]
 cases AM key (DK es) 0 with
 | none => rfl
 | some p => obtain ⟨i, x⟩ := p; rfl
theorem PI (g : Nat) (r : List AG) (s : St) (u : Nat) (ro : Option (Option Nat)) (n t gm : Nat) (m k : vD) (zd : DV) (key : List Int) (es : List (List Int × α)) (z : α)
  (hm : s.val LP m = .mref s.low.length t gm) (hr : Ak s.low.length ro (some (.mref s.low.length t gm)) = true) (hk : (s.val LP k).key n = some key) (he : s.raw t = some (.mapo gm n (DK es))) (hz : E5.elv z = .d zd) (hu : s.free u = true) (hut : u ≠ t) :
  evalOps LP C g (⟨some u, .mentry n m k zd, none, ro⟩ :: r) s = evalOps LP C (g + 1) r ((s.upd t (.mapo gm n (DK (EY z E5.coolE es key)))).upd u (.v (.tup [E5.elv (LH z es key), .d (.int (Fg es key))]))) := by
 have h1 : s.entries s.low.length t gm n = some (DK es) := Nv s t gm n _ he
 have h2 : ∀ x, s.setAt s.low.length t x = s.upd t x := fun x => PK s t x
 have hf : ∀ x, (s.upd t x).free u = true := fun x => by rw [Ir, if_neg (Ne.symm hut)]; exact hu
 have hp : ∀ (x : BE) (y : LV), (s.upd t x).put (some u) y = some ((s.upd t x).upd u (.v y)) := by
  intro x y
  have := hf x
  simp only [St.put, St.free, St.raw] at this ⊢
  cases hx : (s.upd t x).env.get u with
  | none => rfl
  | some w => rw [hx] at this; cases w <;> simp_all [BE.isV, St.upd]
 simp only [evalOps, Ah, u5.addr, Option.map_some, hm, hr, if_true, evalOp, hk, h1, h2, ZR, LH, Fg, EY]
 cases AM key es 0 with
 | none =>
  simp only [Option.map_none, hp, ← hz]
  congr 3
  ·simp [DK]
  ·simp [DK]
 | some p =>
  obtain ⟨i, x⟩ := p
  simp only [Option.map_some, hp, E5.hc]
  congr 3
  simp [DK, List.map_set]
theorem PP (g : Nat) (r : List AG) (s s1 : St) (tt : Option Nat) (ro : Option (Option Nat)) (n t gm : Nat) (m i v : vD) (key : List Int) (es : List (List Int × α)) (z a : α)
  (hm : s.val LP m = .mref s.low.length t gm) (hr : Ak s.low.length ro (some (.mref s.low.length t gm)) = true) (hi : s.val LP i = .d (.int (Fg es key))) (hv : aK LP s v (E5.elv a) s1) (hl : s1.low = s.low) (he : s1.raw t = some (.mapo gm n (DK (EY z E5.coolE es key)))) :
  evalOps LP C g (⟨tt, .mstore n m i v, none, ro⟩ :: r) s = evalOps LP C (g + 1) r (s1.upd t (.mapo gm n (DK (EI es key a)))) := by
 have h1 : s1.entries s.low.length t gm n = some (DK (EY z E5.coolE es key)) := by rw [← hl]; exact Nv s1 t gm n _ he
 have h2 : ∀ x, s1.setAt s.low.length t x = s1.upd t x := fun x => by rw [← hl]; exact PK s1 t x
 have h3 : E8 (.d (.int (Fg es key))) = some (Fg es key).toNat := by
  apply X4
  simp only [Fg]; cases AM key es 0 with
  | none => simp
  | some p => simp
 simp only [evalOps, Ah, u5.addr, Option.map_some, hm, hr, if_true, evalOp, hi, h3]
 unfold aK at hv
 simp only [hv, h1, h2]
 cases hg : AM key es 0 with
 | none =>
  have e1 : (Fg es key).toNat = es.length := by simp [Fg, hg]
  have e2 : EY z E5.coolE es key = es ++ [(key, z)] := by simp [EY, hg]
  have e3 : EI es key a = es ++ [(key, a)] := by simp [EI, hg]
  rw [e1, e2, e3]
  have e4 : (DK (es ++ [(key, z)]))[es.length]? = some (key, E5.elv z) := by simp [DK]
  rw [e4]
  simp only
  congr 3
  simp [DK]
 | some p =>
  obtain ⟨j, x⟩ := p
  obtain ⟨_, hj, hjx⟩ := KO key es 0 j x hg
  have e1 : (Fg es key).toNat = j := by simp [Fg, hg]
  have e2 : EY z E5.coolE es key = es.set j (key, E5.coolE x) := by simp [EY, hg]
  have e3 : EI es key a = es.set j (key, a) := by simp [EI, hg]
  rw [e1, e2, e3]
  have e4 : (DK (es.set j (key, E5.coolE x)))[j]? = some (key, E5.elv (E5.coolE x)) := by
   simp only [DK, List.getElem?_map]
   rw [List.getElem?_set_self (by omega)]; rfl
  rw [e4]
  simp only
  congr 3
  simp [DK, List.map_set, List.set_set]
theorem UU (g : Nat) (r : List AG) (s : St) (tt : Option Nat) (ro : Option (Option Nat)) (n t gm : Nat) (m k v : vD) (key : List Int) (es : List (List Int × α)) (a : α) (vd : DV) (hav : E5.elv a = .d vd)
  (hm : s.val LP m = .mref s.low.length t gm) (hr : Ak s.low.length ro (some (.mref s.low.length t gm)) = true) (hk : (s.val LP k).key n = some key) (hv : jP s v = some (.v (.d vd))) (he : s.raw t = some (.mapo gm n (DK es))) :
  evalOps LP C g (⟨tt, .mapset n m k v, none, ro⟩ :: r) s = evalOps LP C (g + 1) r (s.upd t (.mapo gm n (DK (EI es key a)))) :=
 Oh g r s s tt ro n t gm m k v key es a hm hr hk (by rw [hav]; exact d6 hv) rfl he
theorem pm (g : Nat) (r : List AG) (s : St) (tt : Option Nat) (ro : Option (Option Nat)) (n t gm : Nat) (m i v : vD) (key : List Int) (es : List (List Int × α)) (z a : α) (vd : DV) (hav : E5.elv a = .d vd)
  (hm : s.val LP m = .mref s.low.length t gm) (hr : Ak s.low.length ro (some (.mref s.low.length t gm)) = true) (hi : s.val LP i = .d (.int (Fg es key))) (hv : jP s v = some (.v (.d vd))) (he : s.raw t = some (.mapo gm n (DK (EY z E5.coolE es key)))) :
  evalOps LP C g (⟨tt, .mstore n m i v, none, ro⟩ :: r) s = evalOps LP C (g + 1) r (s.upd t (.mapo gm n (DK (EI es key a)))) :=
 PP g r s s tt ro n t gm m i v key es z a hm hr hi (by rw [hav]; exact d6 hv) rfl he
theorem Zo (g : Nat) (r : List AG) (s : St) (d u : Nat) (ro : Option (Option Nat)) (a : α) (y : LV) (hu : s.raw u = some (.v (.tup [E5.elv a, y]))) (hd : s.free d = true) (hdu : d ≠ u) :
  evalOps LP C g (⟨some d, .extract 0 (.tmp u) true, none, ro⟩ :: r) s = evalOps LP C (g + 1) r ((s.upd u (.v (.tup [E5.elv (E5.coolE a), y]))).upd d (.v (E5.elv a))) := by
 have hr : Ak s.low.length ro none = true := by cases ro <;> rfl
 have hput : ∀ (s2 : St) (v : LV), s2.free d = true → s2.put (some d) v = some (s2.upd d (.v v)) := by
  intro s2 v h
  simp only [St.put, St.free, St.raw] at h ⊢
  cases hx : s2.env.get d with
  | none => rfl
  | some w => rw [hx] at h; cases w <;> simp_all [BE.isV, St.upd]
 by_cases hh : ∃ z xs, E5.elv a = .hot z xs
 ·obtain ⟨z, xs, hx⟩ := hh
  have hc := E5.hc a
  rw [hx] at hc hu
  have hf : (s.upd u (.v (.tup [E5.elv (E5.coolE a), y]))).free d = true := by rw [Ir, if_neg (Ne.symm hdu)]; exact hd
  have hp := hput _ (.hot z xs) hf
  have hu' := hu
  simp only [St.raw] at hu
  simp only [evalOps, Ah, u5.addr, Option.map_none, hr, if_true, evalOp, hu, List.getElem?_cons_zero, List.set_cons_zero]
  rw [← hc] at hp ⊢
  rw [hx]
  have hp' : ({ s with env := s.env.set u (.v (.tup [.d (.slice z xs), y])) } : St).put (some d) (.hot z xs) = some ((s.upd u (.v (.tup [LV.cool (.hot z xs), y]))).upd d (.v (.hot z xs))) := hp
  rw [hp']
 ·have hcp : (E5.elv a).copy = E5.elv a := by
   cases ha : E5.elv a with
   | hot z xs => exact absurd ⟨z, xs, ha⟩ hh
   | tup cs => have h2 := E5.hcp a; rw [ha] at h2; have h3 := E5.hc a; rw [ha] at h3; rw [← h3] at h2; exact h2
   | _ => rfl
  have he : E5.elv (E5.coolE a) = E5.elv a := by rw [← E5.hcp]; exact hcp
  have hp := hput s (E5.elv a) hd
  rw [he, Du s u _ hu]
  simp only [St.raw] at hu
  simp only [evalOps, Ah, u5.addr, Option.map_none, hr, if_true, evalOp, hu]
  simp only [List.getElem?_cons_zero]
  cases ha : E5.elv a with
  | hot z xs => exact absurd ⟨z, xs, ha⟩ hh
  | _ => rw [ha] at hcp hp; simp only [hcp, hp]
theorem Oz (g : Nat) (r : List AG) (s : St) (d : Option Nat) (u : Nat) (ro : Option (Option Nat)) (x : LV) (y : DV) (hu : s.raw u = some (.v (.tup [x, .d y]))) :
  evalOps LP C g (⟨d, .extract 1 (.tmp u) true, none, ro⟩ :: r) s = Fh LP C (g + 1) r s d (some (.d y)) := by
 have hr : Ak s.low.length ro none = true := by cases ro <;> rfl
 simp only [St.raw] at hu
 simp only [evalOps, Ah, u5.addr, Option.map_none, hr, if_true, evalOp, hu, List.getElem?_cons_succ, List.getElem?_cons_zero, LV.copy, Fh]
 cases s.put d (.d y) <;> rfl
theorem fV {β : Type} [vG β] (x : Sl β) : E5.elv x = x.lv := rfl
theorem fR {β : Type} [vG β] (x : Sl β) : E5.coolE x = x.spent := rfl
theorem ke (x : Int) : E5.elv x = .d (.int x) := rfl
theorem az (x : Int) : E5.coolE x = x := rfl
theorem gG (x : Bool) : E5.elv x = .d (.bool x) := rfl
theorem YA (x : Bool) : E5.coolE x = x := rfl
theorem Md : DK ([] : List (List Int × α)) = [] := rfl
theorem fb (k : Nat) (env : uI) (d : Nat) (v : DV) : freeze k env (d + 1) (.d v) = some (.d v) := rfl
theorem Xj (k : Nat) (env : uI) (d tm gm n : Nat) (es : List (List Int × α)) (h : env.get tm = some (.mapo gm n (DK es))) : freeze k env (d + 2) (.mref k tm gm) = some (.d (.fmap n (es.map fun p => (p.1, vG.enc p.2)))) := by
 have hm : ∀ es : List (List Int × α), (DK es).mapM (fun p => ((freeze k env (d + 1) p.2).bind LV.toD).map fun v => (p.1, v)) = some (es.map fun p => (p.1, vG.enc p.2)) := by
  intro es
  induction es with
  | nil => rfl
  | cons p es ih =>
   simp only [DK] at ih
   simp only [DK, List.map_cons, List.mapM_cons, E5.hf, Option.bind_some, LV.toD, Option.map_some, ih]
   rfl
 show (if k = k then match env.get tm with
   | some (.mapo g' n es) => if g' = gm then (es.mapM fun p => ((freeze k env (d + 1) p.2).bind LV.toD).map fun v => (p.1, v)).map fun es => LV.d (.fmap n es) else none
   | _ => none
  else some (.mref k tm gm)) = _
 simp only [if_true, h, hm, Option.map_some]
theorem aI {β : Type} [vG β] (g : Nat) (r : List AG) (s : St) (tt : Option Nat) (ro : Option (Option Nat)) (n t gm u : Nat) (m i : vD) (key : List Int) (es : List (List Int × Sl β)) (z a : Sl β)
  (hm : s.val LP m = .mref s.low.length t gm) (hr : Ak s.low.length ro (some (.mref s.low.length t gm)) = true) (hi : s.val LP i = .d (.int (Fg es key))) (hv : s.raw u = some (.v a.lv)) (hut : u ≠ t) (he : s.raw t = some (.mapo gm n (DK (EY z Sl.spent es key)))) :
  evalOps LP C g (⟨tt, .mstore n m i (.tmp u), none, ro⟩ :: r) s = evalOps LP C (g + 1) r ((s.upd u (.v a.spent.lv)).upd t (.mapo gm n (DK (EI es key a)))) :=
 PP g r s _ tt ro n t gm m i (.tmp u) key es z a hm hr hi (S1 hv) rfl (by rw [Ae, if_neg hut]; exact he)
theorem ou {β : Type} [vG β] (g : Nat) (r : List AG) (s : St) (tt : Option Nat) (ro : Option (Option Nat)) (n t gm u : Nat) (m k : vD) (key : List Int) (es : List (List Int × Sl β)) (a : Sl β)
  (hm : s.val LP m = .mref s.low.length t gm) (hr : Ak s.low.length ro (some (.mref s.low.length t gm)) = true) (hk : (s.val LP k).key n = some key) (hv : s.raw u = some (.v a.lv)) (hut : u ≠ t) (he : s.raw t = some (.mapo gm n (DK es))) :
  evalOps LP C g (⟨tt, .mapset n m k (.tmp u), none, ro⟩ :: r) s = evalOps LP C (g + 1) r ((s.upd u (.v a.spent.lv)).upd t (.mapo gm n (DK (EI es key a)))) :=
 Oh g r s _ tt ro n t gm m k (.tmp u) key es a hm hr hk (S1 hv) rfl (by rw [Ae, if_neg hut]; exact he)
end
theorem sq (k : Nat) (env : uI) (d : Nat) (v : DV) : freeze k env (d + 1) (.d v) = some (.d v) := rfl
def sc (f : Nat) : Option (List LV) → Option (List LV) → Option LV
 | some a, some b => some (LV.norm (.fn f a b))
 | _, _ => none
theorem rF (k : Nat) (env : uI) (d f : Nat) (a b : List LV) : freeze k env (d + 1) (.fn f a b) = sc f (a.mapM (freeze k env d)) (b.mapM (freeze k env d)) := by
 simp only [freeze, sc]; cases a.mapM (freeze k env d) <;> cases b.mapM (freeze k env d) <;> rfl
theorem Z9 (f : Nat) (a b : List LV) : sc f (some a) (some b) = some (LV.norm (.fn f a b)) := rfl
def ud (off : Nat) : Option (List LV) → Option LV
 | some cs => some (LV.norm (.fptr cs off))
 | none => none
theorem dB {k t g : Nat} {env : uI} {cs : List LV} (h : env.get t = some (.box g cs)) (d off : Nat) : freeze k env (d + 1) (.ptr k t g off) = ud off (cs.mapM (freeze k env d)) := by
 simp only [freeze, if_true, h]; cases cs.mapM (freeze k env d) <;> rfl
theorem ff (off : Nat) (cs : List LV) : ud off (some cs) = some (LV.norm (.fptr cs off)) := rfl
theorem sU {k j : Nat} (h : j < k) (t g : Nat) (env : uI) (d off : Nat) : freeze k env (d + 1) (.ptr j t g off) = some (.ptr j t g off) := by
 simp only [freeze, if_neg (show ¬ j = k by omega)]
theorem nE {k j : Nat} (h : j < k) (t g : Nat) (env : uI) (d : Nat) : freeze k env (d + 1) (.mref j t g) = some (.mref j t g) := by
 simp only [freeze, if_neg (show ¬ j = k by omega)]
theorem QE (j t g : Nat) (r : List LV) : AU (.mref j t g :: r) = none := rfl
theorem lb {s : St} {r : Nat × Option (Option Nat)} {v : LV} (h : Rh s r = some v) : vN [r] s = some v := by
 simp [vN, h]
theorem bP : vG.enc Fv.nil = .nilfn := rfl
theorem gB (k : Nat) (env : uI) (d : Nat) (ds : List DV) : (ds.map LV.d).mapM (freeze k env (d + 1)) = some (ds.map LV.d) := by
 induction ds with
 | nil => rfl
 | cons v ds ih => simp only [List.map_cons, List.mapM_cons, sq, ih]; rfl
theorem dL (ds : List DV) (off : Nat) : LV.norm (.fptr (ds.map LV.d) off) = .d (.fptr ds off) := by
 simp only [LV.norm, LV.toD, PO, Option.map_some]
theorem Xb (v : DV) (off : Nat) : LV.norm (.fptr [.d v] off) = .d (.fptr [v] off) := rfl
theorem NB (cs : List LV) (off : Nat) (r : List LV) (h : AU cs = none) : AU (.fptr cs off :: r) = none := by simp only [AU, LV.toD, h, Option.map_none]
theorem XZ (cs : List LV) (off : Nat) (h : AU cs = none) : LV.norm (.fptr cs off) = .fptr cs off := by simp only [LV.norm, LV.toD, h, Option.map_none]
def rG : Option LV → Option (List LV) → Option (List LV)
 | some y, some ys => some (y :: ys)
 | _, _ => none
theorem Xx (y : LV) (ys : List LV) : rG (some y) (some ys) = some (y :: ys) := rfl
theorem pE (f : LV → Option LV) : ([] : List LV).mapM f = some [] := rfl
theorem oD (f : LV → Option LV) (x : LV) (r : List LV) : (x :: r).mapM f = rG (f x) (r.mapM f) := by
 simp only [List.mapM_cons]; cases f x with
 | none => rfl
 | some y => cases r.mapM f <;> rfl
theorem bW (s : St) (t : Nat) : Rh s (t, none) = freeze s.low.length s.env 9 (pZ s.low.length t (s.raw t)) := by
 simp only [Rh, Ci, IM]; rfl
theorem RD {n : Nat} {xs cs : List LV} (h1 : cs.length = n) (h2 : xs.length = n) (h3 : xs.all LV.cellOk = true) : D5 n 0 xs cs = some xs := by
 simp only [D5, h1, h2, h3, Nat.zero_add, Nat.le_refl, and_self, if_true]
 simp [setCells, h1, h2]
theorem Q2 (cs : List LV) : LV.known (.agg cs) = some cs := rfl
theorem Ge {LP : A2} {C : AP} (g : Nat) (r : List AG) (s : St) (n t g' off u : Nat) (xs : List LV) (h : s.raw u = some (.v (.agg xs))) :
  Qz LP C g r s n t g' off (.tmp u) (some (.v (.agg xs))) = ec LP C g r ((FU n off g' (some xs) (s.raw t)).map fun x => s.upd t x) := by
 show Hh LP C g r s n (.ptr s.low.length t g' off) (.tmp u) = _
 have ht : s.take LP (.tmp u) = (.agg xs, s) := by
  unfold St.raw at h
  simp only [St.take, h, St.slot, LV.copy]
 simp only [Hh, ht, Hm, Q2]
 cases hr : s.raw t with
 | none => rfl
 | some z => cases z with
  | box g2 cs =>
   simp only [FU]
   by_cases hg : g2 = g'
   ·subst hg
    simp only [if_true]
    by_cases hc : xs.length = n ∧ off + n ≤ cs.length ∧ xs.all LV.cellOk = true
    ·simp only [if_pos hc, Option.map_some, St.setAt, if_true, St.upd]
    ·simp only [if_neg hc, Option.map_none]
   ·simp only [if_neg hg]; rfl
  | _ => rfl
def GX {σ α : Type} (LP : A2) (R : σ → List Fr → Prop) (j g : Nat) (A : α → List LV) (yf : α → σ → Option (Bool × σ)) : Prop :=
 ∀ x s b s', yf x s = some (b, s') → ∀ low, R s low → ∀ (above : List Fr) (ctr : Nat), ∃ low' c, R s' low' ∧ (om LP).round j g (A x) (low ++ above) ctr = some (b, low' ++ above, c)
def mS {σ : Type} (R : σ → List Fr → Prop) (fr : Fr) (s : σ) (low1 : List Fr) : Prop := ∃ low, low1 = low ++ [fr] ∧ R s low
def ib {σ : Type} (LP : A2) (n : Nat) (args : List LV) (R : σ → List Fr → Prop) (low : List Fr) (v : LV) (s' : σ) : Prop := ∀ ctr, ∃ low' ctr', R s' low' ∧ nw LP n args low ctr v low' ctr'
section
variable {σ α : Type} {LP : A2} {R : σ → List Fr → Prop} {N : Nat}
theorem GX.push {j g : Nat} {A : α → List LV} {yf : α → σ → Option (Bool × σ)} (h : GX LP R j g A yf) (fr : Fr) : GX LP (mS R fr) j g A yf := by
 rintro x s b s' hx low1 ⟨low, rfl, hR⟩ above ctr
 obtain ⟨low', c, hR', he⟩ := h x s b s' hx low hR ([fr] ++ above) ctr
 exact ⟨low' ++ [fr], c, ⟨low', rfl, hR'⟩, by simpa using he⟩
theorem QJ (hN : ∀ s low, R s low → low.length = N) (fr : Fr) : ∀ s low1, mS R fr s low1 → low1.length = N + 1 := by
 rintro s low1 ⟨low, rfl, hR⟩
 simp [hN s low hR]
theorem FX {j t : Nat} {x : BE} (h : ∀ s low, R s low → HD low j t = some x) (fr : Fr) : ∀ s low1, mS R fr s low1 → HD low1 j t = some x := by
 rintro s low1 ⟨low, rfl, hR⟩
 exact F6 (h s low hR)
theorem JX {N : Nat} {low : List Fr} {e : uI} {l : Option J8} {t : Nat} {x : BE} (hN : low.length = N) (h : uI.get t e = some x) : HD (low ++ [⟨e, l⟩]) N t = some x := by
 rw [← hN]
 exact P9 h
theorem Jo (hN : ∀ s low, R s low → low.length = N) {e : uI} {l : Option J8} {t : Nat} {x : BE} (h : uI.get t e = some x) : ∀ s low1, mS R ⟨e, l⟩ s low1 → HD low1 N t = some x := by
 rintro s low1 ⟨low, rfl, hR⟩
 rw [← hN s low hR]
 exact P9 h
noncomputable def XI (LP : A2) (n : Nat) (args : List LV) (low : List Fr) (ctr : Nat) : List Fr := match (om LP).call n args low ctr with
 | some (_, l, _) => l.dropLast
 | none => []
noncomputable def mF (LP : A2) (j g : Nat) (args : List LV) (low : List Fr) (ctr : Nat) : List Fr := match (om LP).round j g args low ctr with
 | some (_, l, _) => l.dropLast
 | none => []
noncomputable def qm (LP : A2) (j g : Nat) (args : List LV) (low : List Fr) (ctr : Nat) : Nat := match (om LP).round j g args low ctr with
 | some (_, _, c) => c
 | none => 0
theorem ib.om {n : Nat} {args : List LV} {low : List Fr} {fr : Fr} {v : LV} {s' : σ} (hN : ∀ s low, R s low → low.length = N) {s : σ} (hR : R s low) (h : ib LP n args (mS R fr) (low ++ [fr]) v s') (ctr : Nat) :
  (Lf.om LP).call n args (low ++ [fr]) ctr = some (v, XI LP n args (low ++ [fr]) ctr ++ [fr], QZ LP n args (low ++ [fr]) ctr) ∧ R s' (XI LP n args (low ++ [fr]) ctr) ∧ (XI LP n args (low ++ [fr]) ctr).length = low.length := by
 obtain ⟨low1, c, ⟨low', rfl, hR'⟩, he⟩ := h ctr
 have := N9.mpr he
 have e1 : XI LP n args (low ++ [fr]) ctr = low' := by simp [XI, this]
 have e2 : QZ LP n args (low ++ [fr]) ctr = c := by simp [QZ, this]
 rw [e1, e2]
 exact ⟨this, hR', by rw [hN _ _ hR, hN _ _ hR']⟩
theorem GX.om {j g : Nat} {A : α → List LV} {yf : α → σ → Option (Bool × σ)} (h : GX LP R j g A yf) (hN : ∀ s low, R s low → low.length = N) {x : α} {s s' : σ} {b : Bool} {low : List Fr} (hR : R s low) (hx : yf x s = some (b, s')) (fr : Fr) (ctr : Nat) :
  (Lf.om LP).round j g (A x) (low ++ [fr]) ctr = some (b, mF LP j g (A x) (low ++ [fr]) ctr ++ [fr], qm LP j g (A x) (low ++ [fr]) ctr) ∧ R s' (mF LP j g (A x) (low ++ [fr]) ctr) ∧ (mF LP j g (A x) (low ++ [fr]) ctr).length = low.length := by
 obtain ⟨low', c, hR', he⟩ := h x s b s' hx low hR [fr] ctr
 have e1 : mF LP j g (A x) (low ++ [fr]) ctr = low' := by simp [mF, he]
 have e2 : qm LP j g (A x) (low ++ [fr]) ctr = c := by simp [qm, he]
 rw [e1, e2]
 exact ⟨he, hR', by rw [hN _ _ hR, hN _ _ hR']⟩
def rq (lf : K7) (R : σ → List Fr → Prop) (s' : σ) (v : LV) (j : vI) (s : St) : Prop := (j = .normal ∨ j = .ret) ∧ R s' s.low ∧ vN lf.results s = some v
theorem rI {n : Nat} {lf : K7} {args : List LV} {low : List Fr} {v : LV} {s' : σ} (B : List Nat) (hf : LP.funcs n = some lf) (hl : args.length = lf.nparams)
  (h : ∀ s, (∀ t, s.raw t = (DG 0 args).get t) → s.low = low → uY B s → Run LP [] lf.body s (rq lf R s' v)) : ib LP n args R low v s' := by
 intro ctr
 obtain ⟨j, s1, hc, hj, hR, hr⟩ := h { env := DG 0 args, low, ctr } (fun _ => rfl) rfl (Uj _ _ _ _)
 exact ⟨s1.low, s1.ctr, hR, nw.func (jmp := j) hf hl hc hj (v := v) hr⟩
end
def St.mergedL (s : St) (vis : List Nat) (low : List Fr) (c : Nat) : St := ⟨uI.merge vis s.env (s.env.keep vis), low, c⟩
theorem U7 (s : St) (vis : List Nat) (low : List Fr) (c t : Nat) : (s.mergedL vis low c).raw t = s.raw t := MU s vis c t
theorem RG (s : St) (vis : List Nat) (low : List Fr) (c t : Nat) : (s.mergedL vis low c).free t = s.free t := OS s vis c t
theorem Ur (s : St) (vis : List Nat) (low : List Fr) (c : Nat) : (s.mergedL vis low c).low = low := rfl
theorem Z5 {LP : A2} {C : AP} (g : Nat) (r : List AG) (s : St) (t : Option Nat) (vis : List Nat) (v : LV) (c : Nat) (low2 : List Fr) (h : low2.length = s.low.length) :
  LK LP C g r s t vis (some (v, low2 ++ [⟨s.env.keep vis, none⟩], c)) = Fh LP C g r (s.mergedL vis low2 c) t (some v) := by
 simp [LK, St.mergedL, h]
theorem gk (j g : Nat) : (LV.yield j g).copy = .yield j g := rfl
theorem lA (f : Nat) (a b : List LV) : (LV.fn f a b).copy = .fn f a b := rfl
theorem fN (j t g o : Nat) : (LV.ptr j t g o).copy = .ptr j t g o := rfl
theorem bT (j t g : Nat) : (LV.mref j t g).copy = .mref j t g := rfl
theorem fL (a : List LV) : (LV.agg a).copy = .agg a := rfl
theorem cD (a : List LV) (o : Nat) : (LV.fptr a o).copy = .fptr a o := rfl
theorem RN (off : Nat) (cs : List LV) (o : Nat) : IS off (.fptr cs o) = some (.fptr cs (o + off)) := rfl
theorem oZ (j g : Nat) : XL 1 (.yield j g) = some [.yield j g] := rfl
theorem kN (k t j g : Nat) : Kv k t (.v (.yield j g)) = .yield j g := rfl
def yv : Option (Bool × List Fr × Nat) → Option (LV × List Fr × Nat)
 | some (b, l, c) => some (.d (.bool b), l, c)
 | none => none
theorem l4 (b : Bool) (l : List Fr) (c : Nat) : yv (some (b, l, c)) = some (.d (.bool b), l, c) := rfl
def jR (LP : A2) (C : AP) (g : Nat) (r : List AG) (s : St) (t : Option Nat) (ro : Option (Option Nat)) (u : Nat) (args : List vD) (vis : List Nat) : LV → Option St
 | .d (.fn f a b) => LK LP C (g + 1) r s t vis (C.call f (a.map .d ++ args.map (s.val LP) ++ b.map .d) (s.low ++ [⟨s.env.keep vis, none⟩]) s.ctr)
 | .fn f a b => LK LP C (g + 1) r s t vis (C.call f (a ++ args.map (s.val LP) ++ b) (s.low ++ [⟨s.env.keep vis, none⟩]) s.ctr)
 | .yield j g' => LK LP C (g + 1) r s t vis (yv (C.round j g' (args.map (s.val LP)) (s.low ++ [⟨s.env.keep vis, none⟩]) s.ctr))
 | _ => evalOps LP C g (⟨t, .call (.tmp u) args (some vis), none, ro⟩ :: r) s
theorem gp {LP : A2} {C : AP} (g : Nat) (r : List AG) (s : St) (t : Option Nat) (ro : Option (Option Nat)) (u : Nat) (args : List vD) (vis : List Nat) :
  evalOps LP C g (⟨t, .call (.tmp u) args (some vis), none, ro⟩ :: r) s = jR LP C g r s t ro u args vis (s.slot u) := by
 have key : ∀ x, s.slot u = x → evalOps LP C g (⟨t, .call (.tmp u) args (some vis), none, ro⟩ :: r) s = jR LP C g r s t ro u args vis x := by
  intro x hx
  have h1 := mg (LP := LP) (C := C) g r s t ro u args vis
  cases x with
  | d v => cases v with
   | fn f a b => rw [h1, hx]; rfl
   | _ => rfl
  | fn f a b => rw [h1, hx]; rfl
  | yield j g' =>
   have hr : Ak s.low.length ro none = true := by cases ro <;> rfl
   simp only [evalOps, Ah, u5.addr, Option.map_none, hr, if_true, evalOp, St.val, hx, jR]
   cases C.round j g' (args.map (s.val LP)) (s.low ++ [⟨s.env.keep vis, none⟩]) s.ctr with
   | none => rfl
   | some p =>
    obtain ⟨b, low', c'⟩ := p
    simp only [LK, yv]
    cases low'.getLast? with
    | none => rfl
    | some fr =>
     simp only
     by_cases hl : low'.length = s.low.length + 1
     ·simp only [if_pos hl]; rfl
     ·simp only [if_neg hl]
  | _ => rfl
 exact key _ rfl
theorem mI (LP : A2) (C : AP) (g : Nat) (r : List AG) (s : St) (t : Option Nat) (ro : Option (Option Nat)) (u : Nat) (args : List vD) (vis : List Nat) (f : Nat) (a b : List DV) :
 jR LP C g r s t ro u args vis (.d (.fn f a b)) = LK LP C (g + 1) r s t vis (C.call f (a.map .d ++ args.map (s.val LP) ++ b.map .d) (s.low ++ [⟨s.env.keep vis, none⟩]) s.ctr) := rfl
theorem ft (LP : A2) (C : AP) (g : Nat) (r : List AG) (s : St) (t : Option Nat) (ro : Option (Option Nat)) (u : Nat) (args : List vD) (vis : List Nat) (f : Nat) (a b : List LV) :
 jR LP C g r s t ro u args vis (.fn f a b) = LK LP C (g + 1) r s t vis (C.call f (a ++ args.map (s.val LP) ++ b) (s.low ++ [⟨s.env.keep vis, none⟩]) s.ctr) := rfl
theorem lZ (LP : A2) (C : AP) (g : Nat) (r : List AG) (s : St) (t : Option Nat) (ro : Option (Option Nat)) (u : Nat) (args : List vD) (vis : List Nat) (j g' : Nat) :
 jR LP C g r s t ro u args vis (.yield j g') = LK LP C (g + 1) r s t vis (yv (C.round j g' (args.map (s.val LP)) (s.low ++ [⟨s.env.keep vis, none⟩]) s.ctr)) := rfl
theorem nv {LP : A2} {ks : List dX} {J : vI → St → Prop} {s : St} {B : List Nat} {ops : List AG} {keep : List Nat} {low : List Fr} {Q : List Fr → Prop} (l : List (Nat × BE)) (hl : s.low = low) (hf : uY B s) (hB : ops.all (vM B) = true) (hk : l.all (fun p => keep.contains p.1) = true)
  (h : ∃ s1, Lf.evalOps LP (om LP) s.ctr ops (s.tick ops.length) = some s1 ∧ Br l s1 ∧ Q s1.low)
  (h' : ∀ s', DW l s' → Q s'.low → uY B s' → EF LP ks .normal s' J) : Run LP ks (.ops ops keep) s J := by
 obtain ⟨s1, he, hr, hl1⟩ := h
 have hf1 : uY B s1 := uY.evalOps hB (show uY B (s.tick ops.length) from hf) he
 obtain ⟨e, lw, c⟩ := s
 exact ⟨.normal, { s1 with env := s1.env.keep keep }, .ops (MR he), h' _ (Br.keep hk hr).r hl1 (uY.keep keep hf1)⟩
theorem lV (s : St) : vN [] s = some (.d (.tup [])) := rfl
def Bz (low : List Fr) (j t : Nat) (x : BE) : List Fr := low.modify j fun fr => { fr with env := fr.env.set t x }
def St.setL (s : St) (j t : Nat) (x : BE) : St := { s with low := Bz s.low j t x }
theorem FZ (low : List Fr) (j t : Nat) (x : BE) : (Bz low j t x).length = low.length := by simp [Bz]
theorem Ix (s : St) (j t u : Nat) (x : BE) : (s.setL j t x).raw u = s.raw u := rfl
theorem HG (s : St) (j t u : Nat) (x : BE) : (s.setL j t x).free u = s.free u := rfl
theorem I1 (s : St) (j t : Nat) (x : BE) : (s.setL j t x).low = Bz s.low j t x := rfl
theorem JU (s : St) (j t : Nat) (x : BE) (h : j < s.low.length) : s.setAt j t x = s.setL j t x := by
 simp only [St.setAt, if_neg (show ¬ j = s.low.length by omega)]; rfl
theorem Eg {low : List Fr} {j t t' : Nat} {x : BE} (h : j < low.length) : HD (Bz low j t x) j t' = if t = t' then some x else HD low j t' := by
 simp only [HD, Bz, List.getElem?_modify_eq]
 rw [List.getElem?_eq_getElem h]
 exact IJ ..
theorem Jb {s : St} {j t g : Nat} (h : j < s.low.length) : s.cells j t g = match HD s.low j t with
  | some (.box g' cs) => if g' = g then some cs else none
  | _ => none := by
 simp only [St.cells, St.at, if_neg (show ¬ j = s.low.length by omega), HD]
 rw [List.getElem?_eq_getElem h]
 simp only
 cases (s.low[j]).env.get t with
 | none => rfl
 | some x => cases x <;> rfl
theorem Hz (s : St) (k : Option Nat) (j t g off : Nat) (h : j < s.low.length) : Og s k none (.ptr j t g off) = GM k off g (HD s.low j t) := by
 simp only [Og, Ak, if_true, Jb h]
 cases HD s.low j t with
 | none => rfl
 | some x => cases x with
  | box g' cs =>
   simp only [GM]
   by_cases hg : g' = g
   ·simp only [if_pos hg]
   ·simp only [if_neg hg]
  | _ => rfl
theorem Gl {low : List Fr} {j t : Nat} {x : BE} (h : HD low j t = some x) : Bz low j t x = low := by
 have hj := eK h
 simp only [HD] at h
 rw [List.getElem?_eq_getElem hj] at h
 simp only [Bz]
 apply List.ext_getElem?
 intro i
 rw [List.getElem?_modify]
 by_cases hi : j = i
 ·subst hi
  rw [List.getElem?_eq_getElem hj]
  have h2 := Lj _ _ _ h
  show some (if j = j then { low[j] with env := low[j].env.set t x } else low[j]) = some low[j]
  rw [if_pos rfl, h2]
 ·simp [hi]
section
variable {LP : A2} {C : AP}
theorem Kr (g : Nat) (r : List AG) (s : St) (n j t g' off : Nat) (x : vD) (v : DV) (hj : j < s.low.length) (hx : jP s x = some (.v (.d v))) :
  Hh LP C g r s n (.ptr j t g' off) x = ec LP C g r ((FU n off g' (LV.known (.d v)) (HD s.low j t)).map fun b => s.setL j t b) := by
 have ht : s.take LP x = (.d v, s) := d6 hx
 simp only [Hh, ht, Jb hj]
 cases HD s.low j t with
 | none => rfl
 | some z => cases z with
  | box g2 cs =>
   simp only [FU]
   by_cases hg : g2 = g'
   ·subst hg
    simp only [if_true]
    cases LV.known (.d v) with
    | none => rfl
    | some xs =>
     simp only
     by_cases hc : xs.length = n ∧ off + n ≤ cs.length ∧ xs.all LV.cellOk = true
     ·simp only [if_pos hc, Option.map_some, JU s j t _ hj]
     ·simp only [if_neg hc]; rfl
   ·simp only [if_neg hg]
    cases LV.known (.d v) <;> rfl
  | _ => rfl
theorem RR {β : Type} [vG β] (g : Nat) (r : List AG) (s : St) (n j t g' off u : Nat) (x : Sl β) (hj : j < s.low.length) (hx : s.raw u = some (.v x.lv)) :
  Hh LP C g r s n (.ptr j t g' off) (.tmp u) = ec LP C g r ((FU n off g' (some [x.lv]) (HD s.low j t)).map fun b => (s.upd u (.v x.spent.lv)).setL j t b) := by
 have ht : s.take LP (.tmp u) = (x.lv, s.upd u (.v x.spent.lv)) := S1 hx
 have hj2 : j < (s.upd u (.v x.spent.lv)).low.length := hj
 simp only [Hh, ht, Jb hj2, TD, Zi]
 cases HD s.low j t with
 | none => rfl
 | some z => cases z with
  | box g2 cs =>
   simp only [FU]
   by_cases hg : g2 = g'
   ·subst hg
    simp only [if_true]
    by_cases hc : [x.lv].length = n ∧ off + n ≤ cs.length ∧ [x.lv].all LV.cellOk = true
    ·simp only [if_pos hc, Option.map_some, JU _ j t _ hj2]
    ·simp only [if_neg hc]; rfl
   ·simp only [if_neg hg]; rfl
  | _ => rfl
theorem En {s : St} {d : Nat} (v : LV) (h : s.free d = true) : s.put (some d) v = some (s.upd d (.v v)) := by
 simp only [St.put, St.free, St.raw] at h ⊢
 cases hx : s.env.get d with
 | none => rfl
 | some w => rw [hx] at h; cases w <;> simp_all [BE.isV, St.upd]
theorem cx {β : Type} [vG β] (g : Nat) (r : List AG) (s : St) (d : Nat) (p : vD) (j t gb : Nat) (x : Sl β) (hp : s.val LP p = .ptr j t gb 0) (hj : j < s.low.length) (hb : HD s.low j t = some (.box gb [x.lv])) (hd : s.free d = true) :
  evalOps LP C g (⟨some d, .load none p true, none, none⟩ :: r) s = evalOps LP C (g + 1) r ((s.setL j t (.box gb [x.spent.lv])).upd d (.v x.lv)) := by
 have hc : s.cells j t gb = some [x.lv] := by rw [Jb hj, hb]; simp
 have hr : Ak s.low.length none (some (LV.ptr j t gb 0)) = true := rfl
 have hd2 : ∀ y, (s.setL j t y).free d = true := fun y => hd
 simp only [evalOps, Ah, u5.addr, Option.map_some, hp, hr, if_true, evalOp, hc]
 cases x with
 | hot xs =>
  have e : (Sl.hot xs).lv = LV.hot (vG.n β) (xs.map vG.enc) := rfl
  have e2 : (Sl.hot xs).spent.lv = LV.d (.slice (vG.n β) (xs.map vG.enc)) := rfl
  simp only [e, e2, List.getElem?_cons_zero, List.set_cons_zero, JU s j t _ hj, En _ (hd2 _)]
 | nil =>
  rw [show (Sl.nil : Sl β).spent = Sl.nil from rfl]
  have e3 : s.setL j t (.box gb [(Sl.nil : Sl β).lv]) = s := by simp only [St.setL, Gl hb]
  rw [e3]
  simp only [Sl.lv, List.getElem?_cons_zero, part, Option.map_some, LV.copy, En _ hd]
 | cold xs =>
  rw [show (Sl.cold xs).spent = Sl.cold xs from rfl]
  have e3 : s.setL j t (.box gb [(Sl.cold xs).lv]) = s := by simp only [St.setL, Gl hb]
  rw [e3]
  simp only [Sl.lv, List.getElem?_cons_zero, part, Option.map_some, LV.copy, En _ hd]
 | full xs =>
  rw [show (Sl.full xs).spent = Sl.full xs from rfl]
  have e3 : s.setL j t (.box gb [(Sl.full xs).lv]) = s := by simp only [St.setL, Gl hb]
  rw [e3]
  simp only [Sl.lv, List.getElem?_cons_zero, part, Option.map_some, LV.copy, En _ hd]
theorem TV {s : St} {j t g n : Nat} {es : List (List Int × LV)} (hj : j < s.low.length) (h : HD s.low j t = some (.mapo g n es)) : s.entries j t g n = some es := by
 simp only [HD] at h
 simp only [St.entries, St.at, if_neg (show ¬ j = s.low.length by omega)]
 rw [List.getElem?_eq_getElem hj] at h ⊢
 simp only at h ⊢
 rw [h]; simp
variable {α : Type} [E5 α]
theorem Y4 (g : Nat) (r : List AG) (s : St) (u : Nat) (n j t gm : Nat) (m k : vD) (zd : DV) (key : List Int) (es : List (List Int × α)) (z : α)
  (hm : s.val LP m = .mref j t gm) (hj : j < s.low.length) (hk : (s.val LP k).key n = some key) (he : HD s.low j t = some (.mapo gm n (DK es))) (hz : E5.elv z = .d zd) (hu : s.free u = true) :
  evalOps LP C g (⟨some u, .mentry n m k zd, none, none⟩ :: r) s = evalOps LP C (g + 1) r ((s.setL j t (.mapo gm n (DK (EY z E5.coolE es key)))).upd u (.v (.tup [E5.elv (LH z es key), .d (.int (Fg es key))]))) := by
 have h1 : s.entries j t gm n = some (DK es) := TV hj he
 have hp : ∀ (x : BE) (y : LV), (s.setL j t x).put (some u) y = some ((s.setL j t x).upd u (.v y)) := fun x y => En y hu
 have hr : Ak s.low.length none (some (LV.mref j t gm)) = true := rfl
 simp only [evalOps, Ah, u5.addr, Option.map_some, hm, hr, if_true, evalOp, hk, h1, JU s j t _ hj, ZR, LH, Fg, EY]
 cases AM key es 0 with
 | none =>
  simp only [Option.map_none, hp, ← hz]
  congr 3
  ·simp [DK]
  ·simp [DK]
 | some p =>
  obtain ⟨i, x⟩ := p
  simp only [Option.map_some, hp, E5.hc]
  congr 3
  simp [DK, List.map_set]
theorem YO {β : Type} [vG β] (g : Nat) (r : List AG) (s : St) (n j t gm u : Nat) (m i : vD) (key : List Int) (es : List (List Int × Sl β)) (z a : Sl β)
  (hm : s.val LP m = .mref j t gm) (hj : j < s.low.length) (hi : s.val LP i = .d (.int (Fg es key))) (hv : s.raw u = some (.v a.lv)) (he : HD s.low j t = some (.mapo gm n (DK (EY z Sl.spent es key)))) :
  evalOps LP C g (⟨none, .mstore n m i (.tmp u), none, none⟩ :: r) s = evalOps LP C (g + 1) r ((s.upd u (.v a.spent.lv)).setL j t (.mapo gm n (DK (EI es key a)))) := by
 have hj2 : j < (s.upd u (.v a.spent.lv)).low.length := hj
 have h1 : (s.upd u (.v a.spent.lv)).entries j t gm n = some (DK (EY z Sl.spent es key)) := TV hj2 he
 have hg : s.take LP (.tmp u) = (a.lv, s.upd u (.v a.spent.lv)) := S1 hv
 have hr : Ak s.low.length none (some (LV.mref j t gm)) = true := rfl
 have h3 : E8 (.d (.int (Fg es key))) = some (Fg es key).toNat := by
  apply X4
  simp only [Fg]; cases AM key es 0 with
  | none => simp
  | some p => simp
 simp only [evalOps, Ah, u5.addr, Option.map_some, hm, hr, if_true, evalOp, hi, h3, hg, h1, JU _ j t _ hj2]
 cases hq : AM key es 0 with
 | none =>
  have e1 : (Fg es key).toNat = es.length := by simp [Fg, hq]
  have e2 : EY z Sl.spent es key = es ++ [(key, z)] := by simp [EY, hq]
  have e3 : EI es key a = es ++ [(key, a)] := by simp [EI, hq]
  rw [e1, e2, e3]
  have e4 : (DK (es ++ [(key, z)]))[es.length]? = some (key, E5.elv z) := by simp [DK]
  rw [e4]
  simp only
  congr 3
  simp [DK, fV]
 | some p =>
  obtain ⟨q, x⟩ := p
  obtain ⟨_, hjx, _⟩ := KO key es 0 q x hq
  have e1 : (Fg es key).toNat = q := by simp [Fg, hq]
  have e2 : EY z Sl.spent es key = es.set q (key, x.spent) := by simp [EY, hq]
  have e3 : EI es key a = es.set q (key, a) := by simp [EI, hq]
  rw [e1, e2, e3]
  have e4 : (DK (es.set q (key, x.spent)))[q]? = some (key, E5.elv x.spent) := by
   simp only [DK, List.getElem?_map]
   rw [List.getElem?_set_self (by omega)]; rfl
  rw [e4]
  simp only
  congr 3
  simp [DK, List.map_set, List.set_set, fV]
end
def G1 (B : List Nat) (base above : List Fr) (lp : J8) (l : List (Nat × BE)) (low : List Fr) : Prop :=
 ∃ e, low = base ++ [⟨e, some lp⟩] ++ above ∧ uY B ⟨e, base, 0⟩ ∧ Br l ⟨e, base, 0⟩
def oH (j : Nat) : List (Nat × BE) → List Fr → Prop
 | [], _ => True
 | (t, x) :: l, low => HD low j t = some x ∧ oH j l low
section
variable {B : List Nat} {base above : List Fr} {lp : J8} {l l' : List (Nat × BE)} {low : List Fr}
theorem G1.len (h : G1 B base above lp l low) : low.length = base.length + 1 + above.length := by
 obtain ⟨e, rfl, _⟩ := h; simp; omega
theorem my (base above : List Fr) (e : uI) (o : Option J8) (t : Nat) : HD (base ++ [⟨e, o⟩] ++ above) base.length t = e.get t := by
 simp [HD]
theorem G1.all (h : G1 B base above lp l low) : oH base.length l low := by
 obtain ⟨e, rfl, _, hr⟩ := h
 induction l with
 | nil => trivial
 | cons p l ih => obtain ⟨t, x⟩ := p; exact ⟨by rw [my]; exact hr.1, ih hr.2⟩
theorem Qk (f : Fr → Fr) (x : Fr) (b : List Fr) : ∀ a : List Fr, (a ++ [x] ++ b).modify a.length f = a ++ [f x] ++ b
 | [] => rfl
 | y :: a => by
  have := Qk f x b a
  show (y :: (a ++ [x] ++ b)).modify (a.length + 1) f = _
  rw [List.modify_succ_cons, this]; rfl
theorem jf (base above : List Fr) (e : uI) (o : Option J8) (t : Nat) (x : BE) : Bz (base ++ [⟨e, o⟩] ++ above) base.length t x = base ++ [⟨e.set t x, o⟩] ++ above := Qk _ _ _ _
theorem G1.set (h : G1 B base above lp l low) (t : Nat) (x : BE) (hB : B.contains t = true) (hl : ∀ s, Br l s → Br l' (s.upd t x)) : G1 B base above lp l' (Bz low base.length t x) := by
 obtain ⟨e, rfl, hn, hr⟩ := h
 exact ⟨e.set t x, jf .., Ll (s := ⟨e, base, 0⟩) t x hB hn, hl _ hr⟩
theorem Lq (h : G1 B base above lp l low) (hl : ∀ s, Br l s → Br l' s) : G1 B base above lp l' low := by
 obtain ⟨e, rfl, hn, hr⟩ := h
 exact ⟨e, rfl, hn, hl _ hr⟩
end
def t9 {α τ X : Type} (F : α → τ → Option (Bool × (τ ⊕ X))) (x : α) : τ ⊕ X → Option (Bool × (τ ⊕ X))
 | .inl t => F x t
 | .inr _ => none
def RY {τ X : Type} (g : Nat) (params : List Nat) (assign body : CN) (jm : X → vI) : τ ⊕ X → J8
 | .inl _ => { gen := g, params, assign, body, ready := true, pending := none }
 | .inr x => { gen := g, params, assign, body, ready := false, pending := some (jm x) }
def mR {τ X : Type} (B : List Nat) (base : List Fr) (g : Nat) (params : List Nat) (assign body : CN) (jm : X → vI) (l : τ ⊕ X → List (Nat × BE)) (st : τ ⊕ X) (low : List Fr) : Prop :=
 G1 B base [] (RY g params assign body jm st) (l st) low
theorem OY (base above : List Fr) (e : uI) (r : J8) (a : Bool) (p : Option vI) : Ha (base ++ [⟨e, some r⟩] ++ above) base.length a p = base ++ [⟨e, some { r with ready := a, pending := p }⟩] ++ above := by
 exact Qk _ _ _ _
theorem QT (base above : List Fr) (e : uI) (r : J8) : NS (base ++ [⟨e, some r⟩] ++ above) base.length r.gen = some r := by
 simp [NS]
def kZ {τ X : Type} (B : List Nat) (base above : List Fr) (lp : J8) (jm : X → vI) (l : τ ⊕ X → List (Nat × BE)) (out : Bool × (τ ⊕ X)) (j : vI) (s : St) : Prop := match out.2 with
 | .inl t => out.1 = true ∧ j = .normal ∧ G1 B base above lp (l (.inl t)) s.low
 | .inr x => out.1 = false ∧ j = jm x ∧ jm x ≠ .normal ∧ G1 B base above lp (l (.inr x)) s.low
theorem W1 {LP : A2} {α τ X : Type} {B : List Nat} {base : List Fr} {g : Nat} {params : List Nat} {assign body : CN} {jm : X → vI} {l : τ ⊕ X → List (Nat × BE)} {A : α → List LV} {F : α → τ → Option (Bool × (τ ⊕ X))}
  (hA : ∀ x, (A x).length = params.length)
  (h : ∀ (x : α) (t : τ) (out : Bool × (τ ⊕ X)), F x t = some out → ∀ (e : uI) (above : List Fr) (ctr : Nat), uY B ⟨e, base, 0⟩ → Br (l (.inl t)) ⟨e, base, 0⟩ →
   Run LP [] assign ⟨Ei params (A x) (e.map fun p => (p.1, EJ base.length p.1 p.2)), base ++ [⟨e, some { gen := g, params, assign, body, ready := true, pending := none }⟩] ++ above, ctr⟩ fun j s1 => j = .normal ∧
    s1.low = base ++ [⟨e, some { gen := g, params, assign, body, ready := true, pending := none }⟩] ++ above ∧
    Run LP [] body { s1 with low := base ++ [⟨e, some { gen := g, params, assign, body, ready := false, pending := none }⟩] ++ above } (kZ B base above { gen := g, params, assign, body, ready := false, pending := none } jm l out)) :
  GX LP (mR B base g params assign body jm l) base.length g A (t9 F) := by
 rintro x st b st' hF low1 ⟨e, rfl, hn, hr⟩ above ctr
 cases st with
 | inr y => simp [t9] at hF
 | inl t =>
  simp only [t9] at hF
  obtain ⟨j1, s1, hc1, rfl, hl1, j2, s2, hc2, he2⟩ := h x t (b, st') hF e above ctr hn hr
  obtain ⟨n1, hn1⟩ := hc1
  obtain ⟨n2, hn2⟩ := hc2
  have a1 := C9 LP (Eb LP (Nat.le_max_left n1 n2)) (Nat.le_max_left n1 n2) hn1
  have a2 := C9 LP (Eb LP (Nat.le_max_right n1 n2)) (Nat.le_max_right n1 n2) hn2
  have hsl : Ha s1.low base.length false none = base ++ [⟨e, some { gen := g, params, assign, body, ready := false, pending := none }⟩] ++ above := by
   rw [hl1]; exact OY ..
  have hla : NS s1.low base.length g = some { gen := g, params, assign, body, ready := true, pending := none } := by
   rw [hl1]; exact QT base above e { gen := g, params, assign, body, ready := true, pending := none }
  have hlow : (base ++ [⟨e, some (RY g params assign body jm (.inl t : τ ⊕ X))⟩] ++ [] ++ above)[base.length]? = some ⟨e, some (RY g params assign body jm (.inl t : τ ⊕ X))⟩ := by simp
  have key : ∀ r, endRound base.length g j2 s2 = some r → (Lf.om LP).round base.length g (A x) (base ++ [⟨e, some (RY g params assign body jm (.inl t : τ ⊕ X))⟩] ++ [] ++ above) ctr = some r := by
   intro r hr2
   refine fp.mpr ⟨max n1 n2 + 1, ?_⟩
   simp only [Fj, IB, hlow]
   have hcond : (RY g params assign body jm (.inl t : τ ⊕ X)).gen = g ∧ (RY g params assign body jm (.inl t : τ ⊕ X)).ready = true ∧ (RY g params assign body jm (.inl t : τ ⊕ X)).pending = none ∧ (A x).length = (RY g params assign body jm (.inl t : τ ⊕ X)).params.length := ⟨rfl, rfl, rfl, hA x⟩
   rw [if_pos hcond]
   simp only [List.append_nil]
   have a1' : AX LP (Fj LP (max n1 n2)) (max n1 n2) (RY g params assign body jm (.inl t : τ ⊕ X)).assign { env := Ei (RY g params assign body jm (.inl t : τ ⊕ X)).params (A x) (List.map (fun p => (p.1, EJ base.length p.1 p.2)) e), low := base ++ [⟨e, some (RY g params assign body jm (.inl t : τ ⊕ X))⟩] ++ above, ctr } = some (.normal, s1) := a1
   rw [a1']
   simp only [hla, and_self, if_true, hsl]
   have a2' : AX LP (Fj LP (max n1 n2)) (max n1 n2) (RY g params assign body jm (.inl t : τ ⊕ X)).body { s1 with low := base ++ [⟨e, some { gen := g, params, assign, body, ready := false, pending := none }⟩] ++ above } = some (j2, s2) := a2
   rw [a2']
   exact hr2
  cases st' with
  | inl t' =>
   obtain ⟨hb, rfl, e', hl2, hn2, hr2⟩ := he2
   simp only at hb
   subst hb
   refine ⟨base ++ [⟨e', some (RY g params assign body jm (.inl t' : τ ⊕ X))⟩] ++ [], s2.ctr, ⟨e', rfl, hn2, hr2⟩, key _ ?_⟩
   have : NS s2.low base.length g = some { gen := g, params, assign, body, ready := false, pending := none } := by
    rw [hl2]; exact QT base above e' { gen := g, params, assign, body, ready := false, pending := none }
   rw [hl2] at this
   simp only [endRound, hl2, this, OY, List.append_nil, RY]
  | inr y =>
   obtain ⟨hb, hj, hne, e', hl2, hn2, hr2⟩ := he2
   simp only at hb
   subst hb
   refine ⟨base ++ [⟨e', some (RY g params assign body jm (.inr y : τ ⊕ X))⟩] ++ [], s2.ctr, ⟨e', rfl, hn2, hr2⟩, key _ ?_⟩
   have : NS s2.low base.length g = some { gen := g, params, assign, body, ready := false, pending := none } := by
    rw [hl2]; exact QT base above e' { gen := g, params, assign, body, ready := false, pending := none }
   rw [hj]
   rw [hl2] at this
   simp only [endRound, hl2, this, OY, List.append_nil]
   cases hjm : jm y with
   | normal => exact absurd hjm hne
   | exit i => simp only [RY, hjm]
   | ret => simp only [RY, hjm]
theorem Run.rng {LP : A2} {ks : List dX} {J : vI → St → Prop} {τ X : Type} {B : List Nat} {base : List Fr} {f : vD} {params : List Nat} {assign body : CN} {s : St} {n : Nat} {a b : List LV} {jm : X → vI} {l : τ ⊕ X → List (Nat × BE)} {t0 : τ} {st' : τ ⊕ X} {v : LV}
  (hl : s.low = base) (hf : uY B s) (ht : target (s.val LP f) = some (n, a, b)) (hr : Br (l (.inl t0)) s)
  (hp : ∀ g low1, mR B base g params assign body jm l (.inl t0) low1 → ib LP n (a ++ [.yield base.length g] ++ b) (mR B base g params assign body jm l) low1 v st')
  (hJ : ∀ s', s'.low = base → uY B s' → Br (l st') s' → EF LP ks (match st' with | .inl _ => .normal | .inr x => jm x) s' J) : Run LP ks (.rng f params assign body) s J := by
 have raw_eq : ∀ (s2 : St) (e : uI) (c : Nat), s2.env = e → ∀ l, Br l s2 → Br l ⟨e, base, c⟩ := by
  intro s2 e c he l
  induction l with
  | nil => intro _; trivial
  | cons p l ih => obtain ⟨t, x⟩ := p; subst he; exact fun h => ⟨h.1, ih h.2⟩
 have nob_eq : ∀ (s2 : St) (e : uI) (c : Nat), s2.env = e → uY B s2 → uY B ⟨e, base, c⟩ := by
  intro s2 e c he h u hu; subst he; exact h u hu
 have hc : mR B base s.ctr params assign body jm l (.inl t0) (base ++ [⟨s.env, some (RY s.ctr params assign body jm (.inl t0 : τ ⊕ X))⟩] ++ []) :=
  ⟨s.env, rfl, nob_eq s _ _ rfl hf, raw_eq s _ _ rfl _ hr⟩
 obtain ⟨low', ctr', ⟨e', hl', hn', hr'⟩, m, hm⟩ := hp s.ctr _ hc (s.ctr + 1)
 simp only [List.append_nil] at hl' hm
 subst hl'
 have hlast : (base ++ [(⟨e', some (RY s.ctr params assign body jm st')⟩ : Fr)]).getLast? = some ⟨e', some (RY s.ctr params assign body jm st')⟩ := by simp
 refine ⟨(RY s.ctr params assign body jm st').pending.getD .normal, ⟨e', base, ctr'⟩, ⟨m, ?_⟩, ?_⟩
 ·simp only [AX, ht, hl]
  have hm' : (Fj LP m).call n (a ++ [LV.yield base.length s.ctr] ++ b) (base ++ [{ env := s.env, loop := some { gen := s.ctr, params, assign, body, ready := true, pending := none } }]) (s.ctr + 1) = some (v, base ++ [⟨e', some (RY s.ctr params assign body jm st')⟩], ctr') := hm
  rw [hm']
  simp only [hlast]
  have hcond : (base ++ [(⟨e', some (RY s.ctr params assign body jm st')⟩ : Fr)]).length = base.length + 1 ∧ (RY s.ctr params assign body jm st').gen = s.ctr ∧ ((RY s.ctr params assign body jm st').ready = true ∨ (RY s.ctr params assign body jm st').pending.isSome = true) := by
   refine ⟨by simp, by cases st' <;> rfl, ?_⟩
   cases st' with
   | inl _ => exact .inl rfl
   | inr _ => exact .inr rfl
  rw [if_pos hcond]
  simp
 ·have := hJ ⟨e', base, ctr'⟩ rfl (nob_eq ⟨e', base, 0⟩ e' ctr' rfl hn') (raw_eq ⟨e', base, 0⟩ e' ctr' rfl _ hr')
  cases st' with
  | inl _ => exact this
  | inr _ => exact this
theorem KA (j : Nat) (t : Nat) : ∀ e : uI, uI.get t (e.map fun p => (p.1, EJ j p.1 p.2)) = (uI.get t e).map (EJ j t)
 | [] => rfl
 | (u, x) :: e => by
  simp only [List.map_cons, uI.get]
  by_cases h : u = t
  ·subst h; simp
  ·simp only [if_neg h]; exact KA j t e
theorem IL : ∀ (ps : List Nat) (xs : List LV) (e : uI) (t : Nat), ps.contains t = false → uI.get t (Ei ps xs e) = uI.get t e
 | [], _, _, _, _ => by simp [Ei]
 | _ :: _, [], _, _, _ => by simp [Ei]
 | p :: ps, x :: xs, e, t, h => by
  rw [List.contains_cons, Bool.or_eq_false_iff] at h
  simp only [Ei]
  rw [IL ps xs _ t h.2, IJ, if_neg]
  intro hp; subst hp; simp at h
theorem VV : ∀ (ps : List Nat) (xs : List LV) (e : uI) (low : List Fr) (c : Nat), ps.Nodup → Br ((ps.zip xs).map fun p => (p.1, BE.v p.2)) ⟨Ei ps xs e, low, c⟩
 | [], _, _, _, _, _ => trivial
 | _ :: _, [], _, _, _, _ => trivial
 | p :: ps, x :: xs, e, low, c, h => by
  rw [List.nodup_cons] at h
  refine ⟨?_, VV ps xs (e.set p (.v x)) low c h.2⟩
  show uI.get p (Ei ps xs (e.set p (.v x))) = some (.v x)
  rw [IL ps xs _ p (by simpa using h.1), IJ, if_pos rfl]
theorem RZ : ∀ (ps : List Nat) (xs : List LV) (e : uI) (low : List Fr) (c t : Nat), (∀ u, St.free ⟨e, low, c⟩ u = true) → St.free ⟨Ei ps xs e, low, c⟩ t = true
 | [], _, _, _, _, t, h => h t
 | _ :: _, [], _, _, _, t, h => h t
 | p :: ps, x :: xs, e, low, c, t, h => by
  refine RZ ps xs (e.set p (.v x)) low c t ?_
  intro u
  have := Ir ⟨e, low, c⟩ p u (.v x)
  show St.free (St.upd ⟨e, low, c⟩ p (.v x)) u = true
  rw [this]
  by_cases hu : p = u
  ·rw [if_pos hu]; rfl
  ·rw [if_neg hu]; exact h u
theorem i5 (j : Nat) (e : uI) (low : List Fr) (c u : Nat) : St.free ⟨e.map fun p => (p.1, EJ j p.1 p.2), low, c⟩ u = true := by
 simp only [St.free, St.raw, KA]
 cases uI.get u e with
 | none => rfl
 | some x => cases x <;> rfl
theorem uY.congr {B : List Nat} {s s' : St} (h : uY B s) (hr : ∀ u, s'.raw u = s.raw u) : uY B s' := by
 intro u hu
 have := h u hu
 simp only [St.free] at this ⊢
 rw [hr]; exact this
theorem G6 {LP : A2} {α τ X : Type} {B : List Nat} {base : List Fr} {g : Nat} {params : List Nat} {assign body : CN} {jm : X → vI} {l : τ ⊕ X → List (Nat × BE)} {A : α → List LV} {F : α → τ → Option (Bool × (τ ⊕ X))}
  (hnd : params.Nodup) (hA : ∀ x, (A x).length = params.length)
  (h : ∀ (x : α) (t : τ) (out : Bool × (τ ⊕ X)), F x t = some out → ∀ (e : uI) (above low0 low : List Fr) (lp : J8) (s : St),
   (∀ u y, params.contains u = false → uI.get u e = some y → s.raw u = some (EJ base.length u y)) → Br ((params.zip (A x)).map fun p => (p.1, BE.v p.2)) s → Br (l (.inl t)) ⟨e, base, 0⟩ → G1 B base above lp (l (.inl t)) low → s.low = low0 → uY B s →
   Run LP [] assign s fun j s1 => j = .normal ∧ s1.low = low0 ∧ ∀ s2 : St, (∀ u, s2.raw u = s1.raw u) → s2.low = low → Run LP [] body s2 (kZ B base above lp jm l out)) :
  GX LP (mR B base g params assign body jm l) base.length g A (t9 F) := by
 refine W1 hA ?_
 intro x t out hF e above ctr hn hr
 have hb : G1 B base above { gen := g, params, assign, body, ready := false, pending := none } (l (.inl t)) (base ++ [⟨e, some { gen := g, params, assign, body, ready := false, pending := none }⟩] ++ above) := ⟨e, rfl, hn, hr⟩
 obtain ⟨j, s1, h1, rfl, h2, h3⟩ := h x t out hF e above (base ++ [⟨e, some { gen := g, params, assign, body, ready := true, pending := none }⟩] ++ above) _ { gen := g, params, assign, body, ready := false, pending := none }
  ⟨Ei params (A x) (e.map fun p => (p.1, EJ base.length p.1 p.2)), base ++ [⟨e, some { gen := g, params, assign, body, ready := true, pending := none }⟩] ++ above, ctr⟩
  (fun u y hu hy => by
   show uI.get u (Ei params (A x) _) = _
   rw [IL _ _ _ _ hu, KA, hy]; rfl)
  (VV _ _ _ _ _ hnd) hr hb rfl (fun u _ => RZ _ _ _ _ _ _ (fun u => i5 _ _ _ _ _))
 exact ⟨.normal, s1, h1, rfl, h2, h3 _ (fun u => rfl) rfl⟩
theorem sZ {α : Type} [vG α] {s : St} {t g : Nat} {x : Sl α} (h : s.raw t = some (.box g [.d (vG.enc x)])) : s.raw t = some (.box g [x.cool.lv]) := by rw [h, MY]
theorem TF {τ X : Type} {B : List Nat} {base : List Fr} {g : Nat} {params : List Nat} {assign body : CN} {jm : X → vI} {l : τ ⊕ X → List (Nat × BE)} (st : τ ⊕ X) (low : List Fr) (h : mR B base g params assign body jm l st low) : low.length = base.length + 1 := by
 have := G1.len h
 simpa using this
theorem sP : type_of% (And.intro @ck <| And.intro @ae <| And.intro @pH <| And.intro @aM <| And.intro @fE <| And.intro @iR <| And.intro @fM <| And.intro @hG <| And.intro @ic <| And.intro @fU <| And.intro @mM <| And.intro @lM <| And.intro @oz <| And.intro @pA <| And.intro @oL <| And.intro @qk <| And.intro @ol <| And.intro @rn <| And.intro @oe <| And.intro @iD <| And.intro @gI <| And.intro @oO <| And.intro @bj <| And.intro @a9 <| And.intro @gQ <| And.intro @fg <| And.intro @gr <| And.intro @j9 <| And.intro @mJ <| And.intro @hO <| And.intro @od <| And.intro @lW <| And.intro @fD <| And.intro @bq <| And.intro @gz <| And.intro @bm <| And.intro @Ae <| And.intro @fy <| And.intro @Zi <| And.intro @gv <| And.intro @gl <| And.intro @Ir <| And.intro @cu <| And.intro @IM <| And.intro @Ej <| And.intro @Lt <| And.intro @al <| And.intro @bK <| And.intro @Jm <| And.intro @cU <| And.intro @YC <| And.intro @cM <| And.intro @Xw <| And.intro @kC <| And.intro @oj <| And.intro @kD <| And.intro @hQ <| And.intro @iL <| And.intro @bw <| And.intro @iS <| And.intro @Pg <| And.intro @gU <| And.intro @hZ <| And.intro @bR <| And.intro @lq <| And.intro @lI <| And.intro @ci <| And.intro @kV <| And.intro @ZM <| And.intro @fZ <| And.intro @MP <| And.intro @X8 <| And.intro @VF <| And.intro @cc <| And.intro @Xi <| And.intro @Xm <| And.intro @Xp <| And.intro @Uy <| And.intro @XV <| And.intro @XH <| And.intro @Td <| And.intro @XU <| And.intro @cw <| And.intro @cX <| And.intro @Xk <| And.intro @XR <| And.intro @ZE <| And.intro @iV <| And.intro @fF <| And.intro @O5 <| And.intro @TD <| And.intro @XO <| And.intro @Xf <| And.intro @UE <| And.intro @cL <| And.intro @bu <| And.intro @bg <| And.intro @gP <| And.intro @VT <| And.intro @S9 <| And.intro @iU <| And.intro @mK <| And.intro @cg <| And.intro @XF <| And.intro @lj <| And.intro @iC <| And.intro @bS <| And.intro @Xg <| And.intro @hT <| And.intro @ia <| And.intro @gx <| And.intro @cn <| And.intro @MG <| And.intro @lU <| And.intro @kW <| And.intro @kX <| And.intro @ge <| And.intro @fS <| And.intro @gR <| And.intro @hU <| And.intro @iW <| And.intro @gf <| And.intro @ii <| And.intro @fW <| And.intro @gV <| And.intro @lB <| And.intro @kh <| And.intro @li <| And.intro @XW <| And.intro @UM <| And.intro @bC <| And.intro @bN <| And.intro @kP <| And.intro @iP <| And.intro @iE <| And.intro @rK <| And.intro @iY <| And.intro @XQ <| And.intro @MU <| And.intro @OS <| And.intro @Xr <| And.intro @fq <| And.intro @bP <| And.intro @QE <| And.intro @NB <| And.intro @fh <| And.intro @YD <| And.intro @cA <| And.intro @fV <| And.intro @fR <| And.intro @ke <| And.intro @az <| And.intro @gG <| And.intro @YA <| And.intro @Oz <| And.intro @VJ <| And.intro @bJ <| And.intro @X5 <| And.intro @VR <| And.intro @dI <| And.intro @Tj <| And.intro @Yx <| And.intro @Of <| And.intro @O3 <| And.intro @P0 <| And.intro @fJ <| And.intro @HJ <| And.intro @cQ <| And.intro @XG <| And.intro @j4 <| And.intro @iH <| And.intro @UR <| And.intro @gp <| And.intro @mI <| And.intro @ft <| And.intro @lZ <| And.intro @l4 <| And.intro @Z5 <| And.intro @U7 <| And.intro @RG <| And.intro @Ur <| And.intro @oZ <| And.intro @RN <| And.intro @GR <| And.intro @lA <| And.intro @fN <| And.intro @bT <| And.intro @fL <| And.intro @cD <| And.intro @gk <| And.intro @kN <| And.intro @j7 <| And.intro @get_keep <| And.intro @Rb <| And.intro @XE <| And.intro @qg @qx) :=
 And.intro @ck <| And.intro @ae <| And.intro @pH <| And.intro @aM <| And.intro @fE <| And.intro @iR <| And.intro @fM <| And.intro @hG <| And.intro @ic <| And.intro @fU <| And.intro @mM <| And.intro @lM <| And.intro @oz <| And.intro @pA <| And.intro @oL <| And.intro @qk <| And.intro @ol <| And.intro @rn <| And.intro @oe <| And.intro @iD <| And.intro @gI <| And.intro @oO <| And.intro @bj <| And.intro @a9 <| And.intro @gQ <| And.intro @fg <| And.intro @gr <| And.intro @j9 <| And.intro @mJ <| And.intro @hO <| And.intro @od <| And.intro @lW <| And.intro @fD <| And.intro @bq <| And.intro @gz <| And.intro @bm <| And.intro @Ae <| And.intro @fy <| And.intro @Zi <| And.intro @gv <| And.intro @gl <| And.intro @Ir <| And.intro @cu <| And.intro @IM <| And.intro @Ej <| And.intro @Lt <| And.intro @al <| And.intro @bK <| And.intro @Jm <| And.intro @cU <| And.intro @YC <| And.intro @cM <| And.intro @Xw <| And.intro @kC <| And.intro @oj <| And.intro @kD <| And.intro @hQ <| And.intro @iL <| And.intro @bw <| And.intro @iS <| And.intro @Pg <| And.intro @gU <| And.intro @hZ <| And.intro @bR <| And.intro @lq <| And.intro @lI <| And.intro @ci <| And.intro @kV <| And.intro @ZM <| And.intro @fZ <| And.intro @MP <| And.intro @X8 <| And.intro @VF <| And.intro @cc <| And.intro @Xi <| And.intro @Xm <| And.intro @Xp <| And.intro @Uy <| And.intro @XV <| And.intro @XH <| And.intro @Td <| And.intro @XU <| And.intro @cw <| And.intro @cX <| And.intro @Xk <| And.intro @XR <| And.intro @ZE <| And.intro @iV <| And.intro @fF <| And.intro @O5 <| And.intro @TD <| And.intro @XO <| And.intro @Xf <| And.intro @UE <| And.intro @cL <| And.intro @bu <| And.intro @bg <| And.intro @gP <| And.intro @VT <| And.intro @S9 <| And.intro @iU <| And.intro @mK <| And.intro @cg <| And.intro @XF <| And.intro @lj <| And.intro @iC <| And.intro @bS <| And.intro @Xg <| And.intro @hT <| And.intro @ia <| And.intro @gx <| And.intro @cn <| And.intro @MG <| And.intro @lU <| And.intro @kW <| And.intro @kX <| And.intro @ge <| And.intro @fS <| And.intro @gR <| And.intro @hU <| And.intro @iW <| And.intro @gf <| And.intro @ii <| And.intro @fW <| And.intro @gV <| And.intro @lB <| And.intro @kh <| And.intro @li <| And.intro @XW <| And.intro @UM <| And.intro @bC <| And.intro @bN <| And.intro @kP <| And.intro @iP <| And.intro @iE <| And.intro @rK <| And.intro @iY <| And.intro @XQ <| And.intro @MU <| And.intro @OS <| And.intro @Xr <| And.intro @fq <| And.intro @bP <| And.intro @QE <| And.intro @NB <| And.intro @fh <| And.intro @YD <| And.intro @cA <| And.intro @fV <| And.intro @fR <| And.intro @ke <| And.intro @az <| And.intro @gG <| And.intro @YA <| And.intro @Oz <| And.intro @VJ <| And.intro @bJ <| And.intro @X5 <| And.intro @VR <| And.intro @dI <| And.intro @Tj <| And.intro @Yx <| And.intro @Of <| And.intro @O3 <| And.intro @P0 <| And.intro @fJ <| And.intro @HJ <| And.intro @cQ <| And.intro @XG <| And.intro @j4 <| And.intro @iH <| And.intro @UR <| And.intro @gp <| And.intro @mI <| And.intro @ft <| And.intro @lZ <| And.intro @l4 <| And.intro @Z5 <| And.intro @U7 <| And.intro @RG <| And.intro @Ur <| And.intro @oZ <| And.intro @RN <| And.intro @GR <| And.intro @lA <| And.intro @fN <| And.intro @bT <| And.intro @fL <| And.intro @cD <| And.intro @gk <| And.intro @kN <| And.intro @j7 <| And.intro @get_keep <| And.intro @Rb <| And.intro @XE <| And.intro @qg @qx
end Go.Lf
