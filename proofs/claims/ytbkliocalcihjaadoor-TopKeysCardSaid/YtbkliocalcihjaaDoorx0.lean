/- A part of the proof. -/
import GoSem.Dispatch
set_option linter.all false
namespace Go.Lf
open Go
inductive DV where
 | bot
 | undef
 | int (n : Int)
 | bool (b : Bool)
 | nils
 | slice (sz : Nat) (xs : List DV)
 | agg (cs : List DV)
 | tup (cs : List DV)
 | nilmap
 | fmap (n : Nat) (es : List (List Int × DV))
 | fn (f : Nat) (first cap : List DV)
 | nilfn
 | fptr (cs : List DV) (off : Nat)
 deriving Inhabited
inductive LV where
 | d (v : DV)
 | hot (sz : Nat) (xs : List DV)
 | full (sz : Nat) (xs : List DV)
 | ptr (j t g off : Nat)
 | mref (j t g : Nat)
 | agg (cs : List LV)
 | tup (cs : List LV)
 | fn (f : Nat) (first cap : List LV)
 | fptr (cs : List LV) (off : Nat)
 | yield (j g : Nat)
 deriving Inhabited
def DV.cells : DV → List DV
 | .agg cs => cs
 | v => [v]
def LV.cells : LV → List LV
 | .agg cs => cs
 | .d (.agg cs) => cs.map .d
 | v => [v]
mutual
def LV.toD : LV → Option DV
 | .d v => some v
 | .hot z xs => some (.slice z xs)
 | .full z xs => some (.slice z xs)
 | .agg cs => (AW cs).map .agg
 | .tup cs => (AW cs).map .tup
 | .fptr cs off => (AW cs).map (.fptr · off)
 | .fn f a b => match AW a, AW b with
  | some a, some b => some (.fn f a b)
  | _, _ => none
 | .ptr .. | .mref .. | .yield .. => none
def AW : List LV → Option (List DV)
 | [] => some []
 | x :: xs => match LV.toD x, AW xs with
  | some y, some ys => some (y :: ys)
  | _, _ => none
end
def LV.norm (x : LV) : LV := match x.toD with
 | some v => .d v
 | none => x
def LV.cool : LV → LV
 | .hot z xs => .d (.slice z xs)
 | x => x
def LV.copy : LV → LV
 | .hot z xs => .d (.slice z xs)
 | .tup cs => .tup (cs.map LV.cool)
 | x => x
def LV.known : LV → Option (List LV)
 | .agg cs => some cs
 | .d (.agg cs) => some (cs.map .d)
 | .d .bot | .d .undef | .d (.tup _) | .tup _ => none
 | v => some [v]
def LV.cellOk : LV → Bool
 | .agg _ | .d (.agg _) | .d .bot | .d .undef | .d (.tup _) | .tup _ => false
 | _ => true
inductive Opd where
 | tmp (t : Nat)
 | con (v : DV)
 | glob (g : Nat)
 deriving Inhabited
inductive zn where
 | move (x : Opd) (take : Bool)
 | pick (c a b : Opd)
 | alloc (zs : List DV)
 | box (n : Nat) (x : Opd)
 | build (zs : List DV) (ps : List (Nat × Nat × Opd)) (raw : Bool := false)
 | lit (k : Option Nat) (zs : List DV) (len : Nat) (ps : List (Nat × Nat × Opd)) (fl : Bool := false)
 | mkmap (n : Nat)
 | mapset (n : Nat) (m k v : Opd)
 | load (k : Option Nat) (p : Opd) (take : Bool)
 | store (n : Nat) (p x : Opd)
 | faddr (off : Nat) (p : Opd)
 | field (k : Option Nat) (off : Nat) (x : Opd)
 | iaddrS (sz : Nat) (x i : Opd)
 | iaddrA (sz n : Nat) (p i : Opd)
 | index (k : Option Nat) (sz n : Nat) (x i : Opd)
 | bin (op : BinOp) (x y : Opd)
 | eqb (neg : Bool) (x y : Opd)
 | eqa (neg : Bool) (n : Nat) (x y : Opd)
 | un (op : UnOp) (x : Opd)
 | call (f : Opd) (args : List Opd) (vis : Option (List Nat))
 | len (x : Opd)
 | append (sz q : Nat) (x y : Opd)
 | minmax (isMax : Bool) (xs : List Opd)
 | extract (i : Nat) (x : Opd) (take : Bool)
 | slice (sz : Nat) (x : Opd) (lo hi mx : Option Opd)
 | lookup (n : Nat) (m k : Opd) (ok : Bool) (z : DV)
 | mentry (n : Nat) (m k : Opd) (z : DV)
 | mstore (n : Nat) (m i x : Opd)
 | mkfn (f : Nat) (first cap : List Opd)
 | bad
 deriving Inhabited
structure AD where
 dst : Option Nat
 op : zn
 guard : Option (Nat × Bool)
 root : Option (Option Nat) := none
 deriving Inhabited
inductive zk where
 | normal
 | exit (id : Nat)
 | ret
 deriving DecidableEq, Inhabited
inductive B6 where
 | skip
 | ops (ops : List AD) (keep : List Nat)
 | seq (a b : B6)
 | cond (c : Opd) (thn els : B6)
 | block (id : Nat) (body : B6)
 | loop (body : B6)
 | scope (body : B6)
 | rng (f : Opd) (params : List Nat) (assign body : B6)
 | exit (id : Nat)
 | ret
 deriving Inhabited
inductive A6 where
 | v (x : LV)
 | box (g : Nat) (cs : List LV)
 | mapo (g n : Nat) (es : List (List Int × LV))
 deriving Inhabited
abbrev Env := List (Nat × A6)
def Env.get (t : Nat) : Env → Option A6
 | [] => none
 | (u, x) :: r => if u = t then some x else Env.get t r
def Env.set (t : Nat) (s : A6) : Env → Env
 | [] => [(t, s)]
 | (u, x) :: r => if u = t then (t, s) :: r else (u, x) :: Env.set t s r
def Env.merge (vis : List Nat) (e e' : Env) : Env := e.filterMap fun p => if vis.contains p.1 then (e'.get p.1).map fun s => (p.1, s) else some p
def Env.keep (ks : List Nat) (e : Env) : Env := ks.filterMap fun t => (e.get t).map fun s => (t, s)
structure KV where
 gen : Nat
 params : List Nat
 assign : B6
 body : B6
 ready : Bool
 pending : Option zk
 deriving Inhabited
structure Fr where
 env : Env
 loop : Option KV
 deriving Inhabited
structure St where
 env : Env
 low : List Fr
 ctr : Nat
 deriving Inhabited
structure EQ where
 nparams : Nat
 results : List (Nat × Option (Option Nat))
 body : B6
 deriving Inhabited
structure Aw where
 funcs : Nat → Option EQ
 globs : Nat → List DV
structure AM where
 call : Nat → List LV → List Fr → Nat → Option (LV × List Fr × Nat)
 round : Nat → Nat → List LV → List Fr → Nat → Option (Bool × List Fr × Nat)
section
variable (LP : Aw)
def St.slot (s : St) (t : Nat) : LV := match s.env.get t with
 | some (.v x) => x.copy
 | some (.box g _) => .ptr s.low.length t g 0
 | some (.mapo g _ _) => .mref s.low.length t g
 | none => .d .bot
def St.val (s : St) : Opd → LV
 | .tmp t => s.slot t
 | .con v => .d v
 | .glob g => .d (.fptr (LP.globs g) 0)
def St.take (s : St) (x : Opd) : LV × St := match x with
 | .tmp t => match s.env.get t with
  | some (.v (.hot z xs)) => (.hot z xs, { s with env := s.env.set t (.v (.d (.slice z xs))) })
  | _ => (s.slot t, s)
 | x => (s.val LP x, s)
def St.put (s : St) (t : Option Nat) (x : LV) : Option St := match t with
 | none => some s
 | some t => match s.env.get t with
  | some (.box _ _) | some (.mapo _ _ _) => none
  | _ => some { s with env := s.env.set t (.v x) }
def St.at (s : St) (j t : Nat) : Option A6 :=
 if j = s.low.length then s.env.get t else match s.low[j]? with
  | some fr => fr.env.get t
  | none => none
def St.setAt (s : St) (j t : Nat) (x : A6) : St :=
 if j = s.low.length then { s with env := s.env.set t x }
 else { s with low := s.low.modify j fun fr => { fr with env := fr.env.set t x } }
def St.cells (s : St) (j t g : Nat) : Option (List LV) := match s.at j t with
 | some (.box g' cs) => if g' = g then some cs else none
 | _ => none
def St.entries (s : St) (j t g n : Nat) : Option (List (List Int × LV)) := match s.at j t with
 | some (.mapo g' n' es) => if g' = g ∧ n' = n then some es else none
 | _ => none
def DV.ints : List DV → Option (List Int)
 | [] => some []
 | .int n :: r => (DV.ints r).map (n :: ·)
 | _ :: _ => none
def LV.key (n : Nat) : LV → Option (List Int)
 | .d (.int a) => if n = 1 then some [a] else none
 | .d (.agg cs) => match DV.ints cs with
  | some ks => if ks.length = n ∧ n ≠ 1 then some ks else none
  | none => none
 | _ => none
def LV.aggKey : LV → Option (List Int)
 | .d (.agg cs) => DV.ints cs
 | _ => none
def BZ : Sem Value → Option DV
 | .pure (.int .i64 n) => some (.int n)
 | .pure (.bool b) => some (.bool b)
 | _ => none
def Ak (k : Option Nat) (off : Nat) (cs : List DV) : Option DV := match k with
 | none => cs[off]?
 | some n => let l := (cs.drop off).take n
  if l.length = n then some (.agg l) else none
def part (k : Option Nat) (off : Nat) (cs : List LV) : Option LV := match k with
 | none => (cs[off]?).map LV.copy
 | some n => let l := (cs.drop off).take n
  if l.length = n then some (LV.norm (.agg (l.map LV.copy))) else none
def Jr (k : Option Nat) (off : Nat) : LV → Option LV
 | .d (.agg cs) => (Ak k off cs).map .d
 | .agg cs => part k off cs
 | _ => none
def Hz (off : Nat) : LV → Option LV
 | .d (.fptr cs o) => some (.d (.fptr cs (o + off)))
 | .fptr cs o => some (.fptr cs (o + off))
 | .ptr j t g o => some (.ptr j t g (o + off))
 | _ => none
def setCells (cs : List LV) (off : Nat) (xs : List LV) : List LV := cs.take off ++ xs ++ cs.drop (off + xs.length)
def Br : List (Nat × Nat × LV) → List LV → Option (List LV)
 | [], cs => some cs
 | (off, n, x) :: r, cs => match x.known with
  | some xs => if xs.length = n ∧ off + n ≤ cs.length then Br r (setCells cs off xs) else none
  | none => none
def AN {α : Type} (k : List Int) : List (List Int × α) → Nat → Option (Nat × α)
 | [], _ => none
 | (k', v) :: r, i => if k' = k then some (i, v) else AN k r (i + 1)
def LR : LV → Option (Nat × List DV)
 | .d (.slice z xs) => some (z, xs)
 | .hot z xs => some (z, xs)
 | .full z xs => some (z, xs)
 | _ => none
def fy : LV → Option Nat
 | .d .nils => some 0
 | x => (LR x).map (·.2.length)
def I7 (n q : Nat) : Bool := decide (n * q ≤ 70368744177664)
def A9 (sz q : Nat) (x y : LV) : Option LV :=
 match y with
 | .d .nils => match x with
  | .d .nils => some (.d .nils)
  | .full z xs => if z = sz then some (.full z xs) else none
  | .hot z xs => if z = sz then some (.hot z xs) else none
  | _ => none
 | _ => match LR y with
  | none => none
  | some (zy, ys) =>
   if zy ≠ sz then none else
   match x with
   | .d .nils => if ys = [] then some (.d .nils) else if I7 ys.length q then some (.hot sz ys) else none
   | .full z xs => if z = sz then (if ys = [] then some (.full z xs) else if I7 (xs.length + ys.length) q then some (.hot sz (xs ++ ys)) else none) else none
   | .hot z xs => if z = sz ∧ I7 (xs.length + ys.length) q = true then some (.hot sz (xs ++ ys)) else none
   | _ => none
def E1 : LV → Option Nat
 | .d (.int n) => if 0 ≤ n then some n.toNat else none
 | _ => none
def Nj (sz : Nat) (x : LV) (lo hi mx : Option Nat) : Option LV :=
 match x with
 | .d .nils => if lo.getD 0 = 0 ∧ hi.getD 0 = 0 ∧ mx.getD 0 = 0 ∧ (mx.isSome = true → hi.isSome = true) then some (.d .nils) else none
 | _ => match LR x with
  | none => none
  | some (z, xs) =>
   let h := hi.getD xs.length
   let l := lo.getD 0
   if z = sz ∧ l ≤ h ∧ h ≤ xs.length then
    match mx with
    | none => some (.d (.slice z ((xs.take h).drop l)))
    | some m => if m = h ∧ hi.isSome then some (.full z ((xs.take h).drop l)) else none
   else none
def optNat (v : Opd → LV) : Option Opd → Option (Option Nat)
 | none => some none
 | some x => (E1 (v x)).map some
def EW : LV → Option Bool
 | .d (.bool b) => some b
 | _ => none
def NS : LV → Option Int
 | .d (.int n) => some n
 | _ => none
def N5 : List LV → Option (List Int)
 | [] => some []
 | x :: r => match NS x, N5 r with
  | some a, some l => some (a :: l)
  | _, _ => none
def minmax (isMax : Bool) (xs : List LV) : Option Int := match N5 xs with
 | some (x :: r) => some (r.foldl (fun a b => if isMax then (if a < b then b else a) else (if b < a then b else a)) x)
 | _ => none
def target : LV → Option (Nat × List LV × List LV)
 | .d (.fn f a b) => some (f, a.map .d, b.map .d)
 | .fn f a b => some (f, a, b)
 | _ => none
def aK (raw : Bool) (cs : List LV) : LV := match raw with
 | false => LV.norm (.agg cs)
 | true => .agg cs
def rE (fl : Bool) (z : Nat) (xs : List DV) : LV := match fl with
 | false => .hot z xs
 | true => .full z xs
def evalOp (C : AM) (g : Nat) (dst : Option Nat) (o : zn) (s : St) : Option St :=
 match o with
 | .move x false => s.put dst (s.val LP x)
 | .move x true => let r := s.take LP x; r.2.put dst r.1
 | .pick c a b => match EW (s.val LP c) with
  | some true => s.put dst (s.val LP a)
  | some false => s.put dst (s.val LP b)
  | none => none
 | .alloc zs => match dst with
  | some t => some { s with env := s.env.set t (.box g (zs.map .d)) }
  | none => none
 | .box n x => match dst with
  | some t => match (s.val LP x).known with
   | some cs => if cs.length = n ∧ cs.all LV.cellOk then some { s with env := s.env.set t (.box g cs) } else none
   | none => none
  | none => none
 | .build zs ps raw => match Br (ps.map fun p => (p.1, p.2.1, s.val LP p.2.2)) (zs.map .d) with
  | some cs => s.put dst (aK raw cs)
  | none => none
 | .lit k zs len ps fl =>
  match Br (ps.map fun p => (p.1, p.2.1, s.val LP p.2.2)) ((List.replicate len zs).flatten.map .d) with
  | some cs => if cs.all LV.cellOk then match AW cs with
   | some ds => match (List.range len).mapM fun i => Ak k (i * k.getD 1) ds with
    | some xs => s.put dst (rE fl (k.getD 1) xs)
    | none => none
   | none => none else none
  | none => none
 | .mkmap n => match dst with
  | some t => some { s with env := s.env.set t (.mapo g n []) }
  | none => none
 | .mapset n m k v => match s.val LP m, (s.val LP k).key n with
  | .mref j t g', some key =>
   let r := s.take LP v
   match r.2.entries j t g' n with
   | some es => match AN key es 0 with
    | some (i, _) => some (r.2.setAt j t (.mapo g' n (es.set i (key, r.1))))
    | none => some (r.2.setAt j t (.mapo g' n (es ++ [(key, r.1)])))
   | none => none
  | _, _ => none
 | .load k p take => match s.val LP p with
  | .d (.fptr cs off) => match Ak k off cs with
   | some x => s.put dst (.d x)
   | none => none
  | .fptr cs off => match part k off cs with
   | some x => s.put dst x
   | none => none
  | .ptr j t g' off => match s.cells j t g' with
   | some cs => match take, k, cs[off]? with
    | true, none, some (.hot z xs) => (s.setAt j t (.box g' (cs.set off (.d (.slice z xs))))).put dst (.hot z xs)
    | _, _, _ => match part k off cs with
     | some x => s.put dst x
     | none => none
   | none => none
  | _ => none
 | .store n p x => match s.val LP p with
  | .ptr j t g' off =>
   let r := s.take LP x
   match r.2.cells j t g', r.1.known with
   | some cs, some xs => if xs.length = n ∧ off + n ≤ cs.length ∧ xs.all LV.cellOk then some (r.2.setAt j t (.box g' (setCells cs off xs))) else none
   | _, _ => none
  | _ => none
 | .faddr off p => match Hz off (s.val LP p) with
  | some y => s.put dst y
  | none => none
 | .field k off x => match Jr k off (s.val LP x) with
  | some y => s.put dst y
  | none => none
 | .iaddrS sz x i => match LR (s.val LP x), E1 (s.val LP i) with
  | some (z, xs), some i => match xs[i]? with
   | some e => if z = sz then s.put dst (.d (.fptr e.cells 0)) else none
   | none => none
  | _, _ => none
 | .iaddrA sz n p i => match E1 (s.val LP i) with
  | some i => if i < n then match Hz (i * sz) (s.val LP p) with
   | some y => s.put dst y
   | none => none else none
  | none => none
 | .index k sz n x i => match E1 (s.val LP i) with
  | some i => if i < n then match Jr k (i * sz) (s.val LP x) with
   | some y => s.put dst y
   | none => none else none
  | none => none
 | .bin op x y => match NS (s.val LP x), NS (s.val LP y) with
  | some a, some b => match BZ (binOp op 0 (.int .i64 a) (.int .i64 b)) with
   | some v => s.put dst (.d v)
   | none => none
  | _, _ => none
 | .eqb neg x y => match EW (s.val LP x), EW (s.val LP y) with
  | some a, some b => s.put dst (.d (.bool (if neg then a != b else a == b)))
  | _, _ => none
 | .eqa neg n x y => match (s.val LP x).aggKey, (s.val LP y).aggKey with
  | some a, some b => if a.length = n ∧ b.length = n then s.put dst (.d (.bool (if neg then decide (a ≠ b) else decide (a = b)))) else none
  | _, _ => none
 | .un op x => match s.val LP x with
  | .d (.int a) => match BZ (Op.unary op (.int .i64 a)) with
   | some v => s.put dst (.d v)
   | none => none
  | .d (.bool a) => match BZ (Op.unary op (.bool a)) with
   | some v => s.put dst (.d v)
   | none => none
  | _ => none
 | .call f args none => match target (s.val LP f), AW (args.map (s.val LP)) with
  | some (f, a, b), some ds => match AW a, AW b with
   | some a, some b => match C.call f ((a ++ ds ++ b).map .d) [] 0 with
    | some (v, _, _) => match v.toD with
     | some v => s.put dst (.d v)
     | none => none
    | none => none
   | _, _ => none
  | _, _ => none
 | .call f args (some vis) =>
  let low1 := s.low ++ [{ env := s.env.keep vis, loop := none }]
  match s.val LP f with
  | .yield j g' => match C.round j g' (args.map (s.val LP)) low1 s.ctr with
   | some (b, low', c') => match low'.getLast? with
    | some fr => if low'.length = s.low.length + 1 then ({ env := Env.merge vis s.env fr.env, low := low'.dropLast, ctr := c' } : St).put dst (.d (.bool b)) else none
    | none => none
   | none => none
  | fv => match target fv with
   | some (f, a, b) => match C.call f (a ++ args.map (s.val LP) ++ b) low1 s.ctr with
    | some (v, low', c') => match low'.getLast? with
     | some fr => if low'.length = s.low.length + 1 then ({ env := Env.merge vis s.env fr.env, low := low'.dropLast, ctr := c' } : St).put dst v else none
     | none => none
    | none => none
   | none => none
 | .len x => match fy (s.val LP x) with
  | some n => s.put dst (.d (.int n))
  | none => none
 | .append sz q x y =>
  let r := s.take LP x
  match A9 sz q r.1 (r.2.val LP y) with
  | some v => r.2.put dst v
  | none => none
 | .minmax isMax xs => match minmax isMax (xs.map (s.val LP)) with
  | some n => s.put dst (.d (.int n))
  | none => none
 | .extract i x take => match x with
  | .tmp t => match s.env.get t with
   | some (.v (.d (.tup cs))) => match cs[i]? with
    | some y => s.put dst (.d y)
    | none => none
   | some (.v (.tup cs)) => match take, cs[i]? with
    | true, some (.hot z xs) => ({ s with env := s.env.set t (.v (.tup (cs.set i (.d (.slice z xs))))) } : St).put dst (.hot z xs)
    | _, some y => s.put dst y.copy
    | _, none => none
   | _ => none
  | _ => none
 | .slice sz x lo hi mx => match optNat (s.val LP) lo, optNat (s.val LP) hi, optNat (s.val LP) mx with
  | some lo, some hi, some mx => match Nj sz (s.val LP x) lo hi mx with
   | some v => s.put dst v
   | none => none
  | _, _, _ => none
 | .lookup n m k ok z => match (s.val LP k).key n with
  | none => none
  | some key =>
   let out (r : Option LV) : Option St :=
    let v := r.getD (.d z)
    if ok then s.put dst (LV.norm (.tup [v, .d (.bool r.isSome)])) else s.put dst v
   match s.val LP m with
   | .mref j t g' => match s.entries j t g' n with
    | some es => out ((AN key es 0).map fun p => p.2.copy)
    | none => none
   | .d (.fmap n' es) => if n' = n then out ((AN key es 0).map fun p => .d p.2) else none
   | .d .nilmap => out none
   | _ => none
 | .mentry n m k z => match s.val LP m, (s.val LP k).key n with
  | .mref j t g', some key => match s.entries j t g' n with
   | some es => match AN key es 0 with
    | some (i, v) => (s.setAt j t (.mapo g' n (es.set i (key, v.cool)))).put dst (.tup [v, .d (.int i)])
    | none => (s.setAt j t (.mapo g' n (es ++ [(key, .d z)]))).put dst (.tup [.d z, .d (.int es.length)])
   | none => none
  | _, _ => none
 | .mstore n m i x => match s.val LP m, E1 (s.val LP i) with
  | .mref j t g', some i =>
   let r := s.take LP x
   match r.2.entries j t g' n with
   | some es => match es[i]? with
    | some (key, _) => some (r.2.setAt j t (.mapo g' n (es.set i (key, r.1))))
    | none => none
   | none => none
  | _, _ => none
 | .bad => none
 | .mkfn f first cap => s.put dst (LV.norm (.fn f (first.map (s.val LP)) (cap.map (s.val LP))))
def zn.addr : zn → Option Opd
 | .load _ p _ | .store _ p _ | .mapset _ p _ _ | .lookup _ p _ _ _ | .mentry _ p _ _ | .mstore _ p _ _ => some p
 | _ => none
def Ri : Nat := 1000000
def An (k : Nat) (root : Option (Option Nat)) (x : Option LV) : Bool := match root, x with
 | some r, some (.ptr j t _ _) | some r, some (.mref j t _) => (j == k && r == some t) || (r == some Ri && j != k)
 | _, _ => true
def Ag (C : AM) (g : Nat) (o : AD) (s : St) : Option St :=
 match o.guard with
 | none => if An s.low.length o.root (o.op.addr.map (s.val LP)) then evalOp LP C g o.dst o.op s else none
 | some (t, want) => match s.slot t with
  | .d (.bool b) => if b = want then (if An s.low.length o.root (o.op.addr.map (s.val LP)) then evalOp LP C g o.dst o.op s else none) else s.put o.dst (.d .undef)
  | .d .undef => s.put o.dst (.d .undef)
  | _ => none
def evalOps (C : AM) : Nat → List AD → St → Option St
 | _, [], s => some s
 | g, o :: r, s => match Ag LP C g o s with
  | some s' => evalOps C (g + 1) r s'
  | none => none
def mQ (f : St → Option (zk × St)) : Nat → St → Option (zk × St)
 | 0, _ => none
 | n + 1, s => match f s with
  | some (.normal, s') => mQ f n s'
  | r => r
def AP (C : AM) (n : Nat) : B6 → St → Option (zk × St)
 | .skip, s => some (.normal, s)
 | .ops ops keep, s => match evalOps LP C s.ctr ops { s with ctr := s.ctr + ops.length } with
  | some s' => some (.normal, { s' with env := s'.env.keep keep })
  | none => none
 | .seq a b, s => match AP C n a s with
  | some (.normal, s') => AP C n b s'
  | r => r
 | .cond c a b, s => match EW (s.val LP c) with
  | some true => AP C n a s
  | some false => AP C n b s
  | none => none
 | .block id c, s => match AP C n c s with
  | some (.exit i, s') => if i = id then some (.normal, s') else some (.exit i, s')
  | r => r
 | .loop c, s => mQ (AP C n c) n s
 | .scope c, s => AP C n c s
 | .rng f params assign body, s => match target (s.val LP f) with
  | some (f, a, b) =>
   match C.call f (a ++ [.yield s.low.length s.ctr] ++ b)
    (s.low ++ [{ env := s.env, loop := some { gen := s.ctr, params, assign, body, ready := true, pending := none } }]) (s.ctr + 1) with
   | some (_, low', c') => match low'.getLast? with
    | some { env, loop := some r } =>
     if low'.length = s.low.length + 1 ∧ r.gen = s.ctr ∧ (r.ready = true ∨ r.pending.isSome = true) then
      some (r.pending.getD .normal, { env, low := low'.dropLast, ctr := c' })
     else none
    | _ => none
   | none => none
  | none => none
 | .exit id, s => some (.exit id, s)
 | .ret, s => some (.ret, s)
def freeze (k : Nat) (env : Env) : Nat → LV → Option LV
 | 0, x => match x with
  | .d v => some (.d v)
  | _ => none
 | d + 1, x => match x with
  | .d v => some (.d v)
  | .hot z xs | .full z xs => some (.d (.slice z xs))
  | .ptr j t g off =>
   if j = k then match env.get t with
    | some (.box g' cs) => if g' = g then (cs.mapM (freeze k env d)).map fun cs => LV.norm (.fptr cs off) else none
    | _ => none
   else some (.ptr j t g off)
  | .mref j t g =>
   if j = k then match env.get t with
    | some (.mapo g' n es) => if g' = g then (es.mapM fun p => ((freeze k env d p.2).bind LV.toD).map fun v => (p.1, v)).map fun es => .d (.fmap n es) else none
    | _ => none
   else some (.mref j t g)
  | .agg cs => (cs.mapM (freeze k env d)).map fun cs => LV.norm (.agg cs)
  | .tup cs => (cs.mapM (freeze k env d)).map fun cs => LV.norm (.tup cs)
  | .fptr cs off => (cs.mapM (freeze k env d)).map fun cs => LV.norm (.fptr cs off)
  | .fn f a b => match a.mapM (freeze k env d), b.mapM (freeze k env d) with
   | some a, some b => some (LV.norm (.fn f a b))
   | _, _ => none
  | .yield j g => if j = k then none else some (.yield j g)
def CC (s : St) (r : Nat × Option (Option Nat)) : Option LV := match r.2 with
 | none => some (s.slot r.1)
 | some k => match s.env.get r.1 with
  | some (.box _ cs) => match k with
   | none => (cs[0]?).map LV.copy
   | some n => if cs.length = n then some (LV.norm (.agg (cs.map LV.copy))) else none
  | _ => none
def Cm : Nat → List LV → Env
 | _, [] => []
 | i, x :: r => (i, .v x) :: Cm (i + 1) r
def FM (C : AM) (n : Nat) (f : Nat) (args : List LV) (low : List Fr) (ctr : Nat) : Option (LV × List Fr × Nat) :=
 match LP.funcs f with
 | none => none
 | some lf =>
  if args.length = lf.nparams then
   match AP LP C n lf.body { env := Cm 0 args, low, ctr } with
   | some (.normal, s) | some (.ret, s) =>
    match lf.results.mapM fun r => (CC s r).bind (freeze s.low.length s.env 9) with
    | some [x] => some (x, s.low, s.ctr)
    | some xs => some (LV.norm (.tup xs), s.low, s.ctr)
    | none => none
   | _ => none
  else none
def EZ (j t : Nat) : A6 → A6
 | .v x => .v x.copy
 | .box g _ => .v (.ptr j t g 0)
 | .mapo g _ _ => .v (.mref j t g)
def E0 : List Nat → List LV → Env → Env
 | t :: ts, x :: xs, e => E0 ts xs (e.set t (.v x))
 | _, _, e => e
def H5 (low : List Fr) (j : Nat) (ready : Bool) (pending : Option zk) : List Fr :=
 low.modify j fun fr => { fr with loop := fr.loop.map fun r => { r with ready, pending } }
def Nq (low : List Fr) (j g : Nat) : Option KV := match low[j]? with
 | some { env := _, loop := some r } => if r.gen = g then some r else none
 | _ => none
def endRound (j g : Nat) (jmp : zk) (s : St) : Option (Bool × List Fr × Nat) := match Nq s.low j g with
 | some _ => match jmp with
  | .normal => some (true, H5 s.low j true none, s.ctr)
  | jmp => some (false, H5 s.low j false (some jmp), s.ctr)
 | none => none
def C6 (C : AM) (n : Nat) (j g : Nat) (args : List LV) (low : List Fr) (ctr : Nat) : Option (Bool × List Fr × Nat) :=
 match low[j]? with
 | some { env, loop := some r } =>
  if r.gen = g ∧ r.ready = true ∧ r.pending = none ∧ args.length = r.params.length then
   match AP LP C n r.assign { env := E0 r.params args (env.map fun p => (p.1, EZ j p.1 p.2)), low, ctr } with
   | some (.normal, s) => match Nq s.low j g with
    | some r1 => if r1.ready = true ∧ r1.pending = none then
      match AP LP C n r.body { s with low := H5 s.low j false none } with
      | some (jmp, s) => endRound j g jmp s
      | none => none
     else none
    | none => none
   | _ => none
  else none
 | _ => none
def C5 : Nat → AM
 | 0 => { call := fun _ _ _ _ => none, round := fun _ _ _ _ _ => none }
 | n + 1 => { call := FM LP (C5 n) n, round := C6 LP (C5 n) n }
end
end Go.Lf
namespace Go.Lf
open Go
structure AM.Le (C D : AM) : Prop where
 call : ∀ f args low ctr r, C.call f args low ctr = some r → D.call f args low ctr = some r
 round : ∀ j g args low ctr r, C.round j g args low ctr = some r → D.round j g args low ctr = some r
theorem AM.Le.refl (C : AM) : C.Le C := ⟨fun _ _ _ _ _ h => h, fun _ _ _ _ _ _ h => h⟩
section
variable (LP : Aw) {C D : AM}
theorem eR (h : C.Le D) {g : Nat} {dst : Option Nat} {o : zn} {s s' : St} (he : evalOp LP C g dst o s = some s') : evalOp LP D g dst o s = some s' := by
 cases o
 case call f args vis =>
  cases vis with
  | none =>
   simp only [evalOp] at he ⊢
   split at he
   ·rename_i f' a b ds h1 h2
    split at he
    ·rename_i a' b' h3 h4
     split at he
     ·rename_i v l c hc
      rw [h.call _ _ _ _ _ hc]
      exact he
     ·simp at he
    ·simp at he
   ·simp at he
  | some vis =>
   simp only [evalOp] at he ⊢
   split at he
   ·rename_i j g' _
    split at he
    ·rename_i bb l c hc
     rw [h.round _ _ _ _ _ _ hc]
     exact he
    ·simp at he
   ·split at he
    ·rename_i f' a b _
     split at he
     ·rename_i v l c hc
      rw [h.call _ _ _ _ _ hc]
      exact he
     ·simp at he
    ·simp at he
 case move x t => cases t <;> exact he
 all_goals exact he
theorem UA (h : C.Le D) {g : Nat} {o : AD} {s s' : St} (he : Ag LP C g o s = some s') : Ag LP D g o s = some s' := by
 unfold Ag at he ⊢
 split at he
 ·split at he
  ·rename_i hr; rw [if_pos hr]; exact eR LP h he
  ·simp at he
 ·split at he
  ·split at he
   ·rename_i hb
    rw [if_pos hb]
    split at he
    ·rename_i hr; rw [if_pos hr]; exact eR LP h he
    ·simp at he
   ·rename_i hb; rw [if_neg hb]; exact he
  ·exact he
  ·simp at he
theorem Qm (h : C.Le D) : ∀ {ops : List AD} {g : Nat} {s s' : St}, evalOps LP C g ops s = some s' → evalOps LP D g ops s = some s'
 | [], g, s, s', he => he
 | o :: r, g, s, s', he => by
  simp only [evalOps] at he ⊢
  split at he
  ·rename_i s1 h1
   rw [UA LP h h1]
   exact Qm h he
  ·simp at he
theorem iM {f f' : St → Option (zk × St)} (hf : ∀ s r, f s = some r → f' s = some r) : ∀ {n m : Nat} {s : St} {r : zk × St}, n ≤ m → mQ f n s = some r → mQ f' m s = some r
 | 0, m, s, r, _, he => by simp [mQ] at he
 | n + 1, 0, s, r, hm, _ => by omega
 | n + 1, m + 1, s, r, hm, he => by
  simp only [mQ] at he ⊢
  split at he
  ·rename_i s1 h1
   rw [hf _ _ h1]
   exact iM hf (by omega) he
  ·rename_i hne
   rw [hf _ _ he]
   obtain ⟨j, s1⟩ := r
   cases j with
   | normal => exact absurd he (hne s1)
   | exit id => rfl
   | ret => rfl
theorem DJ (h : C.Le D) {n m : Nat} (hm : n ≤ m) : ∀ {c : B6} {s : St} {r : zk × St}, AP LP C n c s = some r → AP LP D m c s = some r := by
 intro c
 induction c with
 | skip => intro s r he; exact he
 | ops ops keep =>
  intro s r he
  simp only [AP] at he ⊢
  split at he
  ·rename_i s1 h1
   rw [Qm LP h h1]; exact he
  ·simp at he
 | seq a b iha ihb =>
  intro s r he
  simp only [AP] at he ⊢
  split at he
  ·rename_i s1 h1
   rw [iha h1]; exact ihb he
  ·rename_i hne
   rw [iha he]
   obtain ⟨j, s1⟩ := r
   cases j with
   | normal => exact absurd he (hne s1)
   | exit id => rfl
   | ret => rfl
 | cond x a b iha ihb =>
  intro s r he
  simp only [AP] at he ⊢
  split at he
  ·exact iha he
  ·exact ihb he
  ·simp at he
 | block id c ih =>
  intro s r he
  simp only [AP] at he ⊢
  split at he
  ·rename_i i s1 h1
   rw [ih h1]; exact he
  ·rename_i hne
   rw [ih he]
   obtain ⟨j, s1⟩ := r
   cases j with
   | normal => rfl
   | exit i => exact absurd he (hne i s1)
   | ret => rfl
 | loop c ih =>
  intro s r he
  simp only [AP] at he ⊢
  exact iM (fun s r => ih) hm he
 | scope c ih =>
  intro s r he
  simp only [AP] at he ⊢
  exact ih he
 | rng f params assign body iha ihb =>
  intro s r he
  simp only [AP] at he ⊢
  split at he
  ·rename_i f' a b _
   split at he
   ·rename_i v l c hc
    rw [h.call _ _ _ _ _ hc]
    exact he
   ·simp at he
  ·simp at he
 | exit id => intro s r he; exact he
 | ret => intro s r he; exact he
theorem UV (h : C.Le D) {n m : Nat} (hm : n ≤ m) {f : Nat} {args : List LV} {low : List Fr} {ctr : Nat} {r : LV × List Fr × Nat} (he : FM LP C n f args low ctr = some r) :
  FM LP D m f args low ctr = some r := by
 unfold FM at he ⊢
 split at he
 ·simp at he
 ·split at he
  ·rename_i hl
   rw [if_pos hl]
   split at he
   ·rename_i s h1
    rw [DJ LP h hm h1]; exact he
   ·rename_i s h1
    rw [DJ LP h hm h1]; exact he
   ·simp at he
  ·simp at he
theorem SD (h : C.Le D) {n m : Nat} (hm : n ≤ m) {j g : Nat} {args : List LV} {low : List Fr} {ctr : Nat} {r : Bool × List Fr × Nat} (he : C6 LP C n j g args low ctr = some r) :
  C6 LP D m j g args low ctr = some r := by
 unfold C6 at he ⊢
 split at he
 ·split at he
  ·rename_i hc
   rw [if_pos hc]
   split at he
   ·rename_i s1 h1
    rw [DJ LP h hm h1]
    simp only
    split at he
    ·split at he
     ·rename_i hr
      rw [if_pos hr]
      split at he
      ·rename_i jmp s2 h2
       rw [DJ LP h hm h2]; exact he
      ·simp at he
     ·simp at he
    ·simp at he
   ·simp at he
  ·simp at he
 ·simp at he
theorem Ew : ∀ {n m : Nat}, n ≤ m → (C5 LP n).Le (C5 LP m)
 | 0, m, _ => ⟨fun _ _ _ _ _ h => by simp [C5] at h, fun _ _ _ _ _ _ h => by simp [C5] at h⟩
 | n + 1, 0, h => by omega
 | n + 1, m + 1, h =>
  have ih := Ew (n := n) (m := m) (by omega)
  ⟨fun _ _ _ _ _ he => UV LP ih (by omega) he, fun _ _ _ _ _ _ he => SD LP ih (by omega) he⟩
def rB (f : Nat) (args : List LV) (low : List Fr) (ctr : Nat) (v : LV) (low' : List Fr) (ctr' : Nat) : Prop := ∃ n, (C5 LP n).call f args low ctr = some (v, low', ctr')
def Ah (c : B6) (s : St) (jmp : zk) (s' : St) : Prop := ∃ n, AP LP (C5 LP n) n c s = some (jmp, s')
end
end Go.Lf
