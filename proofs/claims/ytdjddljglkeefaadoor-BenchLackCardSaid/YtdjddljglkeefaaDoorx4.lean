/- A part of the proof. -/
import Derived.Test.YtdjddljglkeefaaDoorx0
set_option linter.all false
namespace Go.Lf
open Go
structure zM where
 take : Bool := false
 vis : Option (List Nat) := none
 root : Option (Option Nat) := none
 deriving Inhabited
structure XN where
 id : Nat
 anns : List (Nat × zM)
 keep : List Nat
 deriving Inhabited
def cv1 : Value → Option DV
 | .bool b => some (.bool b)
 | .int .i64 n => some (.int n)
 | .slice none 0 0 => some .nils
 | .map none => some .nilmap
 | .nilFunc => some .nilfn
 | _ => none
def cvs : List Value → Option (List DV)
 | [] => some []
 | x :: r => match cv1 x, cvs r with
  | some y, some ys => some (y :: ys)
  | _, _ => none
def cv : Value → Option DV
 | .agg cs => (cvs cs.toList).map .agg
 | x => cv1 x
section
variable (P : Program)
def DZ (t : TypeId) : Option (Option Nat) := match P.underlying t, P.info? t with
 | some (.struct _), some i | some (.array _ _), some i => some (some i.size)
 | some _, some i => if i.size = 1 then some none else none
 | _, _ => none
def Bt (k : Option Nat) : Nat := k.getD 1
def UM (t : TypeId) : Option DV := match P.info? t with
 | some i => match i.zero with
  | some v => cv v
  | none => none
 | none => none
def zeroCells (t : TypeId) : Option (List DV) := match DZ P t, UM P t with
 | some k, some z => if z.cells.length = Bt k then some z.cells else none
 | _, _ => none
def E0 (F : TypeId → Option Nat) : List Field → Nat → Option Nat
 | [], acc => some acc
 | f :: r, acc => if f.name = "_" ∨ f.offset ≠ acc then none else match F f.type with
  | some m => E0 F r (acc + m)
  | none => none
def bytesOf (t : TypeId) : Option Nat := (P.info? t).map (·.bytes)
def Rz : Nat → TypeId → Option Nat
 | 0, _ => none
 | d + 1, t => match P.underlying t, P.info? t with
  | some (.int .i64), some i => if i.size = 1 then some 1 else none
  | some (.struct fs), some i => if P.stoodInHeld t = true then none else match E0 (Rz d) fs.toList 0 with
   | some n => if i.size = n then some n else none
   | none => none
  | some (.array len e), some i => match Rz d e with
   | some m => if i.size = len * m then some (len * m) else none
   | none => none
  | _, _ => none
def iV (t : TypeId) : Option Nat := match Rz P 5 t, P.underlying t with
 | some n, some (.int _) => some n
 | some n, some _ => if n = 1 then none else some n
 | _, _ => none
def Az : Operand → Option Opd
 | .tmp t => some (.tmp t)
 | .const v => (cv v).map .con
 | .global g => some (.glob g)
 | .func f => some (.con (.fn f [] []))
def JQ (xs : Array Operand) : Option (List Opd) := xs.toList.mapM Az
def I1 : Option Operand → Option (Option Opd)
 | none => some none
 | some x => (Az x).map some
def Zy (fs : Array Field) (i : Nat) : Option (Nat × Nat) := match fs[i]? with
 | some f => (DZ P f.type).map fun k => (f.offset, Bt k)
 | none => none
def Ju (place : Nat → Option (Nat × Nat)) : List (Nat × Operand) → Option (List (Nat × Nat × Opd))
 | [] => some []
 | (i, x) :: r => match place i, Az x, Ju place r with
  | some (off, n), some x, some l => some ((off, n, x) :: l)
  | _, _, _ => none
def lF (a : zM) (op : Op) : Option zl :=
 match op with
 | .move x | .assign x => do some (.move (← Az x) a.take)
 | .pick c x y => do some (.pick (← Az c) (← Az x) (← Az y))
 | .alloc t => do some (.alloc (← zeroCells P t))
 | .box t x => do some (.box (Bt (← DZ P t)) (← Az x))
 | .build t ps => do
  let zs ← zeroCells P t
  match P.underlying t with
  | some (.struct fs) => if fs.toList.all (fun f => (P.info? f.type).isSome) then do some (.build zs (← Ju (Zy P fs) ps.toList)) else none
  | some (.array _ e) => do
   let n := Bt (← DZ P e)
   some (.build zs (← Ju (fun i => some (i * n, n)) ps.toList))
  | _ => none
 | .buildSlice t len ps => match P.underlying t with
  | some (.slice e) => do
   let zs ← zeroCells P e
   let k ← DZ P e
   let n := Bt k
   if n = 0 ∨ len * n > 2 ^ 24 then none else do some (.lit k zs len (← Ju (fun i => some (i * n, n)) ps.toList))
  | _ => none
 | .makeMap t none => match P.underlying t with
  | some (.map key _) => do some (.mkmap (← iV P key))
  | _ => none
 | .insert t m k v | .mapUpdate t m k v => match P.underlying t with
  | some (.map key _) => do some (.mapset (← iV P key) (← Az m) (← Az k) (← Az v))
  | _ => none
 | .load t p => do some (.load (← DZ P t) (← Az p) a.take)
 | .store t p x => do some (.store (Bt (← DZ P t)) (← Az p) (← Az x))
 | .fieldAddr t x f => match P.underlying t with
  | some (.struct fs) => match Zy P fs f with
   | some (off, n) => if n = 0 then none else do some (.faddr off (← Az x))
   | none => none
  | _ => none
 | .field t x f => match P.underlying t with
  | some (.struct fs) => match fs[f]? with
   | some f => do some (.field (← DZ P f.type) f.offset (← Az x))
   | none => none
  | _ => none
 | .indexAddr t x i => match P.underlying t with
  | some (.slice e) => do some (.iaddrS (Bt (← DZ P e)) (← Az x) (← Az i))
  | some (.array n e) => do some (.iaddrA (Bt (← DZ P e)) n (← Az x) (← Az i))
  | _ => none
 | .index t x i => match P.underlying t with
  | some (.array n e) => do let k ← DZ P e; some (.index k (Bt k) n (← Az x) (← Az i))
  | _ => none
 | .binOp op t x y _ => match P.underlying t with
  | some (.int .i64) => do some (.bin op (← Az x) (← Az y))
  | some .bool => match op with
   | .eql => do some (.eqb false (← Az x) (← Az y))
   | .neq => do some (.eqb true (← Az x) (← Az y))
   | _ => none
  | some (.struct _) | some (.array _ _) => match Rz P 5 t with
   | some n => match op with
    | .eql => do some (.eqa false n (← Az x) (← Az y))
    | .neq => do some (.eqa true n (← Az x) (← Az y))
    | _ => none
   | none => none
  | _ => none
 | .unOp op _ x => do some (.un op (← Az x))
 | .makeFunc (.func f) first cap => do some (.mkfn f (← JQ first) (← JQ cap))
 | .slice t x lo hi mx => match P.underlying t with
  | some (.slice e) => do some (.slice (Bt (← DZ P e)) (← Az x) (← I1 lo) (← I1 hi) (← I1 mx))
  | _ => none
 | .lookup t m k ok => match P.underlying t with
  | some (.map key e) => do some (.lookup (← iV P key) (← Az m) (← Az k) ok (← UM P e))
  | _ => none
 | .mapEntry t m k => match P.underlying t with
  | some (.map key e) => do some (.mentry (← iV P key) (← Az m) (← Az k) (← UM P e))
  | _ => none
 | .entryStore t m i x => match P.underlying t with
  | some (.map key _) => do some (.mstore (← iV P key) (← Az m) (← Az i) (← Az x))
  | _ => none
 | .extract x i => do some (.extract i (← Az x) a.take)
 | .call c => match c.callee with
  | .value f => do some (.call (← Az f) (← JQ c.args) a.vis)
  | .builtin .len => match c.argTypes[0]?, c.args[0]?, c.args.size with
   | some t, some x, 1 => match P.underlying t with
    | some (.slice _) => do some (.len (← Az x))
    | some (.array n _) => some (.move (.con (.int n)) false)
    | _ => none
   | _, _, _ => none
  | .builtin .append => match c.argTypes[0]?, c.argTypes[1]?, c.args[0]?, c.args[1]?, c.args.size, c.argTypes.size with
   | some t, some u, some x, some y, 2, 2 => match P.underlying t, P.underlying u with
    | some (.slice e), some (.slice _) => do
     let n := Bt (← DZ P e)
     let q ← bytesOf P e
     let _ ← zeroCells P e
     if n = 0 ∨ q = 0 then none else do some (.append n q (← Az x) (← Az y))
    | _, _ => none
   | _, _, _, _, _, _ => none
  | .builtin .min => do some (.minmax false (← JQ c.args))
  | .builtin .max => do some (.minmax true (← JQ c.args))
  | _ => none
 | _ => none
def zl.mute : zl → Bool
 | .store _ _ _ | .mapset _ _ _ _ | .mstore _ _ _ _ => true
 | _ => false
def Xd (o : Oper) (ops : Array Oper) : Option (Option (Nat × Bool)) := match o.guard with
 | none => some none
 | some (j, b) => match (ops[j]?).bind (·.dst) with
  | some t => some (some (t, b))
  | none => none
def J7 (a : zM) (o : Oper) (ops : Array Oper) : AG := match Xd o ops, lF P a o.op with
 | some g, some op => if op.mute && o.dst.isSome then { dst := o.dst, op := .bad, guard := none } else { dst := o.dst, op, guard := g, root := a.root }
 | _, _ => { dst := o.dst, op := .bad, guard := none }
def XN.find (l : List XN) (id : Nat) : XN := (l.find? (·.id == id)).getD { id, anns := [], keep := [] }
def Ro (r : XN) (ops : Array Oper) : List AG :=
 (List.range ops.size).map fun i => J7 P ((r.anns.lookup i).getD {}) (ops.getD i default) ops
def C7 (l : List XN) : Code → Cd
 | .skip | .label _ => .skip
 | .region id ops _ => let r := XN.find l id; .ops (Ro P r ops) r.keep
 | .seq a b => .seq (C7 l a) (C7 l b)
 | .cond c a b => match Az c with
  | some c => .cond c (C7 l a) (C7 l b)
  | none => .cond (.con .bot) .skip .skip
 | .block id c => .block id (C7 l c)
 | .loop c => .loop (C7 l c)
 | .scope c => .scope (C7 l c)
 | .rangeFunc f ps a b => match Az f with
  | some f => .rng f ps.toList (C7 l a) (C7 l b)
  | none => .cond (.con .bot) .skip .skip
 | .exit id => .exit id
 | .ret => .ret
 | .goto _ | .refuse _ => .cond (.con .bot) .skip .skip
def Oy : ResultVar → Option (Nat × Option (Option Nat))
 | .tmp t => some (t, none)
 | .cell a t => (DZ P t).map fun k => (a, some k)
def uX (l : List XN) (f : Func) : Option NU := match f.body with
 | some c => match f.results.toList.mapM (Oy P) with
  | some rs => some { nparams := f.params.size + f.nfree, results := rs, body := C7 P l c }
  | none => none
 | none => none
end
end Go.Lf
