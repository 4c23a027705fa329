/- A part of the proof. -/
import Derived.Test.YtohgomfnigdaoaaDoory0
set_option linter.all false
namespace Go.Lf
open Go
structure Ann where
 take : Bool := false
 vis : Option (List Nat) := none
 root : Option (Option Nat) := none
 deriving Inhabited
structure YT where
 id : Nat
 anns : List (Nat × Ann)
 keep : List Nat
 deriving Inhabited
def cv1 : Value → Option DV
 | .bool b => some (.bool b)
 | .int .i64 n => some (.int n)
 | .slice none 0 0 => some .nils
 | .map none => some .nilmap
 | .nilFunc => some .nilfn
 | _ => none
def cvs : List Value → Option (List DV)
 | [] => some []
 | x :: r => match cv1 x, cvs r with
  | some y, some ys => some (y :: ys)
  | _, _ => none
def cv : Value → Option DV
 | .agg cs => (cvs cs.toList).map .agg
 | x => cv1 x
section
variable (P : Program)
def Ds (t : TypeId) : Option (Option Nat) := match P.underlying t, P.info? t with
 | some (.struct _), some i | some (.array _ _), some i => some (some i.size)
 | some _, some i => if i.size = 1 then some none else none
 | _, _ => none
def CJ (k : Option Nat) : Nat := k.getD 1
def Uw (t : TypeId) : Option DV := match P.info? t with
 | some i => match i.zero with
  | some v => cv v
  | none => none
 | none => none
def zeroCells (t : TypeId) : Option (List DV) := match Ds P t, Uw P t with
 | some k, some z => if z.cells.length = CJ k then some z.cells else none
 | _, _ => none
def FB (F : TypeId → Option Nat) : List Field → Nat → Option Nat
 | [], acc => some acc
 | f :: r, acc => if f.name = "_" ∨ f.offset ≠ acc then none else match F f.type with
  | some m => FB F r (acc + m)
  | none => none
def bytesOf (t : TypeId) : Option Nat := (P.info? t).map (·.bytes)
def S0 : Nat → TypeId → Option Nat
 | 0, _ => none
 | d + 1, t => match P.underlying t, P.info? t with
  | some (.int .i64), some i => if i.size = 1 then some 1 else none
  | some (.struct fs), some i => if P.stoodInHeld t = true then none else match FB (S0 d) fs.toList 0 with
   | some n => if i.size = n then some n else none
   | none => none
  | some (.array len e), some i => match S0 d e with
   | some m => if i.size = len * m then some (len * m) else none
   | none => none
  | _, _ => none
def iZ (t : TypeId) : Option Nat := match S0 P 5 t, P.underlying t with
 | some n, some (.int _) => some n
 | some n, some _ => if n = 1 then none else some n
 | _, _ => none
def Av : Operand → Option Opd
 | .tmp t => some (.tmp t)
 | .const v => (cv v).map .con
 | .global g => some (.glob g)
 | .func f => some (.con (.fn f [] []))
def J5 (xs : Array Operand) : Option (List Opd) := xs.toList.mapM Av
def JD : Option Operand → Option (Option Opd)
 | none => some none
 | some x => (Av x).map some
def aZ (fs : Array Field) (i : Nat) : Option (Nat × Nat) := match fs[i]? with
 | some f => (Ds P f.type).map fun k => (f.offset, CJ k)
 | none => none
def Jl (place : Nat → Option (Nat × Nat)) : List (Nat × Operand) → Option (List (Nat × Nat × Opd))
 | [] => some []
 | (i, x) :: r => match place i, Av x, Jl place r with
  | some (off, n), some x, some l => some ((off, n, x) :: l)
  | _, _, _ => none
def l4 (a : Ann) (op : Op) : Option LOp :=
 match op with
 | .move x | .assign x => do some (.move (← Av x) a.take)
 | .pick c x y => do some (.pick (← Av c) (← Av x) (← Av y))
 | .alloc t => do some (.alloc (← zeroCells P t))
 | .box t x => do some (.box (CJ (← Ds P t)) (← Av x))
 | .build t ps => do
  let zs ← zeroCells P t
  match P.underlying t with
  | some (.struct fs) => if fs.toList.all (fun f => (P.info? f.type).isSome) then do some (.build zs (← Jl (aZ P fs) ps.toList)) else none
  | some (.array _ e) => do
   let n := CJ (← Ds P e)
   some (.build zs (← Jl (fun i => some (i * n, n)) ps.toList))
  | _ => none
 | .buildSlice t len ps => match P.underlying t with
  | some (.slice e) => do
   let zs ← zeroCells P e
   let k ← Ds P e
   let n := CJ k
   if n = 0 ∨ len * n > 2 ^ 24 then none else do some (.lit k zs len (← Jl (fun i => some (i * n, n)) ps.toList))
  | _ => none
 | .makeMap t none => match P.underlying t with
  | some (.map key _) => do some (.mkmap (← iZ P key))
  | _ => none
 | .insert t m k v | .mapUpdate t m k v => match P.underlying t with
  | some (.map key _) => do some (.mapset (← iZ P key) (← Av m) (← Av k) (← Av v))
  | _ => none
 | .load t p => do some (.load (← Ds P t) (← Av p) a.take)
 | .store t p x => do some (.store (CJ (← Ds P t)) (← Av p) (← Av x))
 | .fieldAddr t x f => match P.underlying t with
  | some (.struct fs) => match aZ P fs f with
   | some (off, n) => if n = 0 then none else do some (.faddr off (← Av x))
   | none => none
  | _ => none
 | .field t x f => match P.underlying t with
  | some (.struct fs) => match fs[f]? with
   | some f => do some (.field (← Ds P f.type) f.offset (← Av x))
   | none => none
  | _ => none
 | .indexAddr t x i => match P.underlying t with
  | some (.slice e) => do some (.iaddrS (CJ (← Ds P e)) (← Av x) (← Av i))
  | some (.array n e) => do some (.iaddrA (CJ (← Ds P e)) n (← Av x) (← Av i))
  | _ => none
 | .index t x i => match P.underlying t with
  | some (.array n e) => do let k ← Ds P e; some (.index k (CJ k) n (← Av x) (← Av i))
  | _ => none
 | .binOp op t x y _ => match P.underlying t with
  | some (.int .i64) => do some (.bin op (← Av x) (← Av y))
  | some .bool => match op with
   | .eql => do some (.eqb false (← Av x) (← Av y))
   | .neq => do some (.eqb true (← Av x) (← Av y))
   | _ => none
  | some (.struct _) | some (.array _ _) => match S0 P 5 t with
   | some n => match op with
    | .eql => do some (.eqa false n (← Av x) (← Av y))
    | .neq => do some (.eqa true n (← Av x) (← Av y))
    | _ => none
   | none => none
  | _ => none
 | .unOp op _ x => do some (.un op (← Av x))
 | .makeFunc (.func f) first cap => do some (.mkfn f (← J5 first) (← J5 cap))
 | .slice t x lo hi mx => match P.underlying t with
  | some (.slice e) => do some (.slice (CJ (← Ds P e)) (← Av x) (← JD lo) (← JD hi) (← JD mx))
  | _ => none
 | .lookup t m k ok => match P.underlying t with
  | some (.map key e) => do some (.lookup (← iZ P key) (← Av m) (← Av k) ok (← Uw P e))
  | _ => none
 | .mapEntry t m k => match P.underlying t with
  | some (.map key e) => do some (.mentry (← iZ P key) (← Av m) (← Av k) (← Uw P e))
  | _ => none
 | .entryStore t m i x => match P.underlying t with
  | some (.map key _) => do some (.mstore (← iZ P key) (← Av m) (← Av i) (← Av x))
  | _ => none
 | .extract x i => do some (.extract i (← Av x) a.take)
 | .call c => match c.callee with
  | .value f => do some (.call (← Av f) (← J5 c.args) a.vis)
  | .builtin .len => match c.argTypes[0]?, c.args[0]?, c.args.size with
   | some t, some x, 1 => match P.underlying t with
    | some (.slice _) => do some (.len (← Av x))
    | some (.array n _) => some (.move (.con (.int n)) false)
    | _ => none
   | _, _, _ => none
  | .builtin .append => match c.argTypes[0]?, c.argTypes[1]?, c.args[0]?, c.args[1]?, c.args.size, c.argTypes.size with
   | some t, some u, some x, some y, 2, 2 => match P.underlying t, P.underlying u with
    | some (.slice e), some (.slice _) => do
     let n := CJ (← Ds P e)
     let q ← bytesOf P e
     let _ ← zeroCells P e
     if n = 0 ∨ q = 0 then none else do some (.append n q (← Av x) (← Av y))
    | _, _ => none
   | _, _, _, _, _, _ => none
  | .builtin .min => do some (.minmax false (← J5 c.args))
  | .builtin .max => do some (.minmax true (← J5 c.args))
  | _ => none
 | _ => none
def LOp.mute : LOp → Bool
 | .store _ _ _ | .mapset _ _ _ _ | .mstore _ _ _ _ => true
 | _ => false
def XS (o : Oper) (ops : Array Oper) : Option (Option (Nat × Bool)) := match o.guard with
 | none => some none
 | some (j, b) => match (ops[j]?).bind (·.dst) with
  | some t => some (some (t, b))
  | none => none
def KP (a : Ann) (o : Oper) (ops : Array Oper) : AH := match XS o ops, l4 P a o.op with
 | some g, some op => if op.mute && o.dst.isSome then { dst := o.dst, op := .bad, guard := none } else { dst := o.dst, op, guard := g, root := a.root }
 | _, _ => { dst := o.dst, op := .bad, guard := none }
def YT.find (l : List YT) (id : Nat) : YT := (l.find? (·.id == id)).getD { id, anns := [], keep := [] }
def Si (r : YT) (ops : Array Oper) : List AH :=
 (List.range ops.size).map fun i => KP P ((r.anns.lookup i).getD {}) (ops.getD i default) ops
def DW (l : List YT) : Code → DC
 | .skip | .label _ => .skip
 | .region id ops _ => let r := YT.find l id; .ops (Si P r ops) r.keep
 | .seq a b => .seq (DW l a) (DW l b)
 | .cond c a b => match Av c with
  | some c => .cond c (DW l a) (DW l b)
  | none => .cond (.con .bot) .skip .skip
 | .block id c => .block id (DW l c)
 | .loop c => .loop (DW l c)
 | .scope c => .scope (DW l c)
 | .rangeFunc f ps a b => match Av f with
  | some f => .rng f ps.toList (DW l a) (DW l b)
  | none => .cond (.con .bot) .skip .skip
 | .exit id => .exit id
 | .ret => .ret
 | .goto _ | .refuse _ => .cond (.con .bot) .skip .skip
def PM : ResultVar → Option (Nat × Option (Option Nat))
 | .tmp t => some (t, none)
 | .cell a t => (Ds P t).map fun k => (a, some k)
def tr (l : List YT) (f : Func) : Option Nq := match f.body with
 | some c => match f.results.toList.mapM (PM P) with
  | some rs => some { nparams := f.params.size + f.nfree, results := rs, body := DW P l c }
  | none => none
 | none => none
end
end Go.Lf
