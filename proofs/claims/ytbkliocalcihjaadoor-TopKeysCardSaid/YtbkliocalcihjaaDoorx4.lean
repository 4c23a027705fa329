/- A part of the proof. -/
import Derived.Test.YtbkliocalcihjaaDoorx0
set_option linter.all false
namespace Go.Lf
open Go
structure zw where
 take : Bool := false
 vis : Option (List Nat) := none
 root : Option (Option Nat) := none
 bad : Bool := false
 deriving Inhabited
structure Rn where
 id : Nat
 anns : List (Nat × zw)
 keep : List Nat
 deriving Inhabited
def cv1 : Value → Option DV
 | .bool b => some (.bool b)
 | .int .i64 n => some (.int n)
 | .slice none 0 0 => some .nils
 | .map none => some .nilmap
 | .nilFunc => some .nilfn
 | _ => none
def cvs : List Value → Option (List DV)
 | [] => some []
 | x :: r => match cv1 x, cvs r with
  | some y, some ys => some (y :: ys)
  | _, _ => none
def cv : Value → Option DV
 | .agg cs => (cvs cs.toList).map .agg
 | x => cv1 x
section
variable (P : Program)
def DC (t : TypeId) : Option (Option Nat) := match P.underlying t, P.info? t with
 | some (.struct _), some i | some (.array _ _), some i => some (some i.size)
 | some _, some i => if i.size = 1 then some none else none
 | _, _ => none
def Bl (k : Option Nat) : Nat := k.getD 1
def SC (t : TypeId) : Option DV := match P.info? t with
 | some i => match i.zero with
  | some v => cv v
  | none => none
 | none => none
def zeroCells (t : TypeId) : Option (List DV) := match DC P t, SC P t with
 | some k, some z => if z.cells.length = Bl k then some z.cells else none
 | _, _ => none
def Ef (F : TypeId → Option Nat) : List Field → Nat → Option Nat
 | [], acc => some acc
 | f :: r, acc => if f.name = "_" ∨ f.offset ≠ acc then none else match F f.type with
  | some m => Ef F r (acc + m)
  | none => none
def bytesOf (t : TypeId) : Option Nat := (P.info? t).map (·.bytes)
def O9 : Nat → TypeId → Option Nat
 | 0, _ => none
 | d + 1, t => match P.underlying t, P.info? t with
  | some (.int .i64), some i => if i.size = 1 then some 1 else none
  | some (.struct fs), some i => if P.stoodInHeld t = true then none else match Ef (O9 d) fs.toList 0 with
   | some n => if i.size = n then some n else none
   | none => none
  | some (.array len e), some i => match O9 d e with
   | some m => if i.size = len * m then some (len * m) else none
   | none => none
  | _, _ => none
def f9 (t : TypeId) : Option Nat := match O9 P 5 t, P.underlying t with
 | some n, some (.int _) => some n
 | some n, some _ => if n = 1 then none else some n
 | _, _ => none
def As : Operand → Option Opd
 | .tmp t => some (.tmp t)
 | .const v => (cv v).map .con
 | .global g => some (.glob g)
 | .func f => some (.con (.fn f [] []))
def Ic (xs : Array Operand) : Option (List Opd) := xs.toList.mapM As
def IV : Option Operand → Option (Option Opd)
 | none => some none
 | some x => (As x).map some
def Zd (fs : Array Field) (i : Nat) : Option (Nat × Nat) := match fs[i]? with
 | some f => (DC P f.type).map fun k => (f.offset, Bl k)
 | none => none
def I4 (place : Nat → Option (Nat × Nat)) : List (Nat × Operand) → Option (List (Nat × Nat × Opd))
 | [] => some []
 | (i, x) :: r => match place i, As x, I4 place r with
  | some (off, n), some x, some l => some ((off, n, x) :: l)
  | _, _, _ => none
def jV (a : zw) (op : Op) : Option zn :=
 match op with
 | .move x | .assign x => do some (.move (← As x) a.take)
 | .pick c x y => do some (.pick (← As c) (← As x) (← As y))
 | .alloc t => do some (.alloc (← zeroCells P t))
 | .box t x => do some (.box (Bl (← DC P t)) (← As x))
 | .build t ps => do
  let zs ← zeroCells P t
  match P.underlying t with
  | some (.struct fs) => if fs.toList.all (fun f => (P.info? f.type).isSome) then do some (.build zs (← I4 (Zd P fs) ps.toList) a.take) else none
  | some (.array _ e) => do
   let n := Bl (← DC P e)
   some (.build zs (← I4 (fun i => some (i * n, n)) ps.toList) a.take)
  | _ => none
 | .buildSlice t len ps => match P.underlying t with
  | some (.slice e) => do
   let zs ← zeroCells P e
   let k ← DC P e
   let n := Bl k
   if n = 0 ∨ len * n > 2 ^ 24 then none else do some (.lit k zs len (← I4 (fun i => some (i * n, n)) ps.toList) a.take)
  | _ => none
 | .makeMap t none => match P.underlying t with
  | some (.map key _) => do some (.mkmap (← f9 P key))
  | _ => none
 | .insert t m k v | .mapUpdate t m k v => match P.underlying t with
  | some (.map key _) => do some (.mapset (← f9 P key) (← As m) (← As k) (← As v))
  | _ => none
 | .load t p => do some (.load (← DC P t) (← As p) a.take)
 | .store t p x => do some (.store (Bl (← DC P t)) (← As p) (← As x))
 | .fieldAddr t x f => match P.underlying t with
  | some (.struct fs) => match Zd P fs f with
   | some (off, n) => if n = 0 then none else do some (.faddr off (← As x))
   | none => none
  | _ => none
 | .field t x f => match P.underlying t with
  | some (.struct fs) => match fs[f]? with
   | some f => do some (.field (← DC P f.type) f.offset (← As x))
   | none => none
  | _ => none
 | .indexAddr t x i => match P.underlying t with
  | some (.slice e) => do some (.iaddrS (Bl (← DC P e)) (← As x) (← As i))
  | some (.array n e) => do some (.iaddrA (Bl (← DC P e)) n (← As x) (← As i))
  | _ => none
 | .index t x i => match P.underlying t with
  | some (.array n e) => do let k ← DC P e; some (.index k (Bl k) n (← As x) (← As i))
  | _ => none
 | .binOp op t x y _ => match P.underlying t with
  | some (.int .i64) => do some (.bin op (← As x) (← As y))
  | some .bool => match op with
   | .eql => do some (.eqb false (← As x) (← As y))
   | .neq => do some (.eqb true (← As x) (← As y))
   | _ => none
  | some (.struct _) | some (.array _ _) => match O9 P 5 t with
   | some n => match op with
    | .eql => do some (.eqa false n (← As x) (← As y))
    | .neq => do some (.eqa true n (← As x) (← As y))
    | _ => none
   | none => none
  | _ => none
 | .unOp op _ x => do some (.un op (← As x))
 | .makeFunc (.func f) first cap => do some (.mkfn f (← Ic first) (← Ic cap))
 | .slice t x lo hi mx => match P.underlying t with
  | some (.slice e) => do some (.slice (Bl (← DC P e)) (← As x) (← IV lo) (← IV hi) (← IV mx))
  | _ => none
 | .lookup t m k ok => match P.underlying t with
  | some (.map key e) => do some (.lookup (← f9 P key) (← As m) (← As k) ok (← SC P e))
  | _ => none
 | .mapEntry t m k => match P.underlying t with
  | some (.map key e) => do some (.mentry (← f9 P key) (← As m) (← As k) (← SC P e))
  | _ => none
 | .entryStore t m i x => match P.underlying t with
  | some (.map key _) => do some (.mstore (← f9 P key) (← As m) (← As i) (← As x))
  | _ => none
 | .extract x i => do some (.extract i (← As x) a.take)
 | .call c => match c.callee with
  | .value f => do some (.call (← As f) (← Ic c.args) a.vis)
  | .builtin .len => match c.argTypes[0]?, c.args[0]?, c.args.size with
   | some t, some x, 1 => match P.underlying t with
    | some (.slice _) => do some (.len (← As x))
    | some (.array n _) => some (.move (.con (.int n)) false)
    | _ => none
   | _, _, _ => none
  | .builtin .append => match c.argTypes[0]?, c.argTypes[1]?, c.args[0]?, c.args[1]?, c.args.size, c.argTypes.size with
   | some t, some u, some x, some y, 2, 2 => match P.underlying t, P.underlying u with
    | some (.slice e), some (.slice _) => do
     let n := Bl (← DC P e)
     let q ← bytesOf P e
     let _ ← zeroCells P e
     if n = 0 ∨ q = 0 then none else do some (.append n q (← As x) (← As y))
    | _, _ => none
   | _, _, _, _, _, _ => none
  | .builtin .min => do some (.minmax false (← Ic c.args))
  | .builtin .max => do some (.minmax true (← Ic c.args))
  | _ => none
 | _ => none
def zn.mute : zn → Bool
 | .store _ _ _ | .mapset _ _ _ _ | .mstore _ _ _ _ => true
 | _ => false
def Vi (o : Oper) (ops : Array Oper) : Option (Option (Nat × Bool)) := match o.guard with
 | none => some none
 | some (j, b) => match (ops[j]?).bind (·.dst) with
  | some t => some (some (t, b))
  | none => none
def I9 (a : zw) (o : Oper) (ops : Array Oper) : AD := match Vi o ops, jV P a o.op with
 | some g, some op => if op.mute && o.dst.isSome || a.bad then { dst := o.dst, op := .bad, guard := none } else { dst := o.dst, op, guard := g, root := a.root }
 | _, _ => { dst := o.dst, op := .bad, guard := none }
def Rn.find (l : List Rn) (id : Nat) : Rn := (l.find? (·.id == id)).getD { id, anns := [], keep := [] }
def MI (r : Rn) (ops : Array Oper) : List AD :=
 (List.range ops.size).map fun i => I9 P ((r.anns.lookup i).getD {}) (ops.getD i default) ops
def Cc (l : List Rn) : Code → B6
 | .skip | .label _ => .skip
 | .region id ops _ => let r := Rn.find l id; .ops (MI P r ops) r.keep
 | .seq a b => .seq (Cc l a) (Cc l b)
 | .cond c a b => match As c with
  | some c => .cond c (Cc l a) (Cc l b)
  | none => .cond (.con .bot) .skip .skip
 | .block id c => .block id (Cc l c)
 | .loop c => .loop (Cc l c)
 | .scope c => .scope (Cc l c)
 | .rangeFunc f ps a b => match As f with
  | some f => .rng f ps.toList (Cc l a) (Cc l b)
  | none => .cond (.con .bot) .skip .skip
 | .exit id => .exit id
 | .ret => .ret
 | .goto _ | .refuse _ => .cond (.con .bot) .skip .skip
def M3 : ResultVar → Option (Nat × Option (Option Nat))
 | .tmp t => some (t, none)
 | .cell a t => (DC P t).map fun k => (a, some k)
def sK (l : List Rn) (f : Func) : Option EQ := match f.body with
 | some c => match f.results.toList.mapM (M3 P) with
  | some rs => some { nparams := f.params.size + f.nfree, results := rs, body := Cc P l c }
  | none => none
 | none => none
end
end Go.Lf
