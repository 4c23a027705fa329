/- A part of the proof. -/
import Derived.Test.YtohgomfnigdaoaaDoorx0
set_option linter.all false
namespace Go.Lf
open Go
structure yb where
 take : Bool := false
 vis : Option (List Nat) := none
 root : Option (Option Nat) := none
 deriving Inhabited
structure W8 where
 id : Nat
 anns : List (Nat × yb)
 keep : List Nat
 deriving Inhabited
def cv1 : Value → Option DV
 | .bool b => some (.bool b)
 | .int .i64 n => some (.int n)
 | .slice none 0 0 => some .nils
 | .map none => some .nilmap
 | .nilFunc => some .nilfn
 | _ => none
def cvs : List Value → Option (List DV)
 | [] => some []
 | x :: r => match cv1 x, cvs r with
  | some y, some ys => some (y :: ys)
  | _, _ => none
def cv : Value → Option DV
 | .agg cs => (cvs cs.toList).map .agg
 | x => cv1 x
section
variable (P : Program)
def Dl (t : TypeId) : Option (Option Nat) := match P.underlying t, P.info? t with
 | some (.struct _), some i | some (.array _ _), some i => some (some i.size)
 | some _, some i => if i.size = 1 then some none else none
 | _, _ => none
def B9 (k : Option Nat) : Nat := k.getD 1
def Uo (t : TypeId) : Option DV := match P.info? t with
 | some i => match i.zero with
  | some v => cv v
  | none => none
 | none => none
def zeroCells (t : TypeId) : Option (List DV) := match Dl P t, Uo P t with
 | some k, some z => if z.cells.length = B9 k then some z.cells else none
 | _, _ => none
def E0 (F : TypeId → Option Nat) : List Field → Nat → Option Nat
 | [], acc => some acc
 | f :: r, acc => if f.name = "_" ∨ f.offset ≠ acc then none else match F f.type with
  | some m => E0 F r (acc + m)
  | none => none
def bytesOf (t : TypeId) : Option Nat := (P.info? t).map (·.bytes)
def Q4 : Nat → TypeId → Option Nat
 | 0, _ => none
 | d + 1, t => match P.underlying t, P.info? t with
  | some (.int .i64), some i => if i.size = 1 then some 1 else none
  | some (.struct fs), some i => if P.stoodInHeld t = true then none else match E0 (Q4 d) fs.toList 0 with
   | some n => if i.size = n then some n else none
   | none => none
  | some (.array len e), some i => match Q4 d e with
   | some m => if i.size = len * m then some (len * m) else none
   | none => none
  | _, _ => none
def hG (t : TypeId) : Option Nat := match Q4 P 5 t, P.underlying t with
 | some n, some (.int _) => some n
 | some n, some _ => if n = 1 then none else some n
 | _, _ => none
def Aq : Operand → Option yV
 | .tmp t => some (.tmp t)
 | .const v => (cv v).map .con
 | .global g => some (.glob g)
 | .func f => some (.con (.fn f [] []))
def JV (xs : Array Operand) : Option (List yV) := xs.toList.mapM Aq
def I2 : Option Operand → Option (Option yV)
 | none => some none
 | some x => (Aq x).map some
def aG (fs : Array Field) (i : Nat) : Option (Nat × Nat) := match fs[i]? with
 | some f => (Dl P f.type).map fun k => (f.offset, B9 k)
 | none => none
def Jc (place : Nat → Option (Nat × Nat)) : List (Nat × Operand) → Option (List (Nat × Nat × yV))
 | [] => some []
 | (i, x) :: r => match place i, Aq x, Jc place r with
  | some (off, n), some x, some l => some ((off, n, x) :: l)
  | _, _, _ => none
def jw (a : yb) (op : Op) : Option yE :=
 match op with
 | .move x | .assign x => do some (.move (← Aq x) a.take)
 | .pick c x y => do some (.pick (← Aq c) (← Aq x) (← Aq y))
 | .alloc t => do some (.alloc (← zeroCells P t))
 | .box t x => do some (.box (B9 (← Dl P t)) (← Aq x))
 | .build t ps => do
  let zs ← zeroCells P t
  match P.underlying t with
  | some (.struct fs) => if fs.toList.all (fun f => (P.info? f.type).isSome) then do some (.build zs (← Jc (aG P fs) ps.toList)) else none
  | some (.array _ e) => do
   let n := B9 (← Dl P e)
   some (.build zs (← Jc (fun i => some (i * n, n)) ps.toList))
  | _ => none
 | .buildSlice t len ps => match P.underlying t with
  | some (.slice e) => do
   let zs ← zeroCells P e
   let k ← Dl P e
   let n := B9 k
   if n = 0 ∨ len * n > 2 ^ 24 then none else do some (.lit k zs len (← Jc (fun i => some (i * n, n)) ps.toList))
  | _ => none
 | .makeMap t none => match P.underlying t with
  | some (.map key _) => do some (.mkmap (← hG P key))
  | _ => none
 | .insert t m k v | .mapUpdate t m k v => match P.underlying t with
  | some (.map key _) => do some (.mapset (← hG P key) (← Aq m) (← Aq k) (← Aq v))
  | _ => none
 | .load t p => do some (.load (← Dl P t) (← Aq p) a.take)
 | .store t p x => do some (.store (B9 (← Dl P t)) (← Aq p) (← Aq x))
 | .fieldAddr t x f => match P.underlying t with
  | some (.struct fs) => match aG P fs f with
   | some (off, n) => if n = 0 then none else do some (.faddr off (← Aq x))
   | none => none
  | _ => none
 | .field t x f => match P.underlying t with
  | some (.struct fs) => match fs[f]? with
   | some f => do some (.field (← Dl P f.type) f.offset (← Aq x))
   | none => none
  | _ => none
 | .indexAddr t x i => match P.underlying t with
  | some (.slice e) => do some (.iaddrS (B9 (← Dl P e)) (← Aq x) (← Aq i))
  | some (.array n e) => do some (.iaddrA (B9 (← Dl P e)) n (← Aq x) (← Aq i))
  | _ => none
 | .index t x i => match P.underlying t with
  | some (.array n e) => do let k ← Dl P e; some (.index k (B9 k) n (← Aq x) (← Aq i))
  | _ => none
 | .binOp op t x y _ => match P.underlying t with
  | some (.int .i64) => do some (.bin op (← Aq x) (← Aq y))
  | some .bool => match op with
   | .eql => do some (.eqb false (← Aq x) (← Aq y))
   | .neq => do some (.eqb true (← Aq x) (← Aq y))
   | _ => none
  | some (.struct _) | some (.array _ _) => match Q4 P 5 t with
   | some n => match op with
    | .eql => do some (.eqa false n (← Aq x) (← Aq y))
    | .neq => do some (.eqa true n (← Aq x) (← Aq y))
    | _ => none
   | none => none
  | _ => none
 | .unOp op _ x => do some (.un op (← Aq x))
 | .makeFunc (.func f) first cap => do some (.mkfn f (← JV first) (← JV cap))
 | .slice t x lo hi mx => match P.underlying t with
  | some (.slice e) => do some (.slice (B9 (← Dl P e)) (← Aq x) (← I2 lo) (← I2 hi) (← I2 mx))
  | _ => none
 | .lookup t m k ok => match P.underlying t with
  | some (.map key e) => do some (.lookup (← hG P key) (← Aq m) (← Aq k) ok (← Uo P e))
  | _ => none
 | .mapEntry t m k => match P.underlying t with
  | some (.map key e) => do some (.mentry (← hG P key) (← Aq m) (← Aq k) (← Uo P e))
  | _ => none
 | .entryStore t m i x => match P.underlying t with
  | some (.map key _) => do some (.mstore (← hG P key) (← Aq m) (← Aq i) (← Aq x))
  | _ => none
 | .extract x i => do some (.extract i (← Aq x) a.take)
 | .call c => match c.callee with
  | .value f => do some (.call (← Aq f) (← JV c.args) a.vis)
  | .builtin .len => match c.argTypes[0]?, c.args[0]?, c.args.size with
   | some t, some x, 1 => match P.underlying t with
    | some (.slice _) => do some (.len (← Aq x))
    | some (.array n _) => some (.move (.con (.int n)) false)
    | _ => none
   | _, _, _ => none
  | .builtin .append => match c.argTypes[0]?, c.argTypes[1]?, c.args[0]?, c.args[1]?, c.args.size, c.argTypes.size with
   | some t, some u, some x, some y, 2, 2 => match P.underlying t, P.underlying u with
    | some (.slice e), some (.slice _) => do
     let n := B9 (← Dl P e)
     let q ← bytesOf P e
     let _ ← zeroCells P e
     if n = 0 ∨ q = 0 then none else do some (.append n q (← Aq x) (← Aq y))
    | _, _ => none
   | _, _, _, _, _, _ => none
  | .builtin .min => do some (.minmax false (← JV c.args))
  | .builtin .max => do some (.minmax true (← JV c.args))
  | _ => none
 | _ => none
def yE.mute : yE → Bool
 | .store _ _ _ | .mapset _ _ _ _ | .mstore _ _ _ _ => true
 | _ => false
def Xd (o : Oper) (ops : Array Oper) : Option (Option (Nat × Bool)) := match o.guard with
 | none => some none
 | some (j, b) => match (ops[j]?).bind (·.dst) with
  | some t => some (some (t, b))
  | none => none
def Jv (a : yb) (o : Oper) (ops : Array Oper) : AH := match Xd o ops, jw P a o.op with
 | some g, some op => if op.mute && o.dst.isSome then { dst := o.dst, op := .bad, guard := none } else { dst := o.dst, op, guard := g, root := a.root }
 | _, _ => { dst := o.dst, op := .bad, guard := none }
def W8.find (l : List W8) (id : Nat) : W8 := (l.find? (·.id == id)).getD { id, anns := [], keep := [] }
def Sz (r : W8) (ops : Array Oper) : List AH :=
 (List.range ops.size).map fun i => Jv P ((r.anns.lookup i).getD {}) (ops.getD i default) ops
def DK (l : List W8) : Code → C0
 | .skip | .label _ => .skip
 | .region id ops _ => let r := W8.find l id; .ops (Sz P r ops) r.keep
 | .seq a b => .seq (DK l a) (DK l b)
 | .cond c a b => match Aq c with
  | some c => .cond c (DK l a) (DK l b)
  | none => .cond (.con .bot) .skip .skip
 | .block id c => .block id (DK l c)
 | .loop c => .loop (DK l c)
 | .scope c => .scope (DK l c)
 | .rangeFunc f ps a b => match Aq f with
  | some f => .rng f ps.toList (DK l a) (DK l b)
  | none => .cond (.con .bot) .skip .skip
 | .exit id => .exit id
 | .ret => .ret
 | .goto _ | .refuse _ => .cond (.con .bot) .skip .skip
def O7 : ResultVar → Option (Nat × Option (Option Nat))
 | .tmp t => some (t, none)
 | .cell a t => (Dl P t).map fun k => (a, some k)
def sD (l : List W8) (f : Func) : Option NV := match f.body with
 | some c => match f.results.toList.mapM (O7 P) with
  | some rs => some { nparams := f.params.size + f.nfree, results := rs, body := DK P l c }
  | none => none
 | none => none
end
end Go.Lf
