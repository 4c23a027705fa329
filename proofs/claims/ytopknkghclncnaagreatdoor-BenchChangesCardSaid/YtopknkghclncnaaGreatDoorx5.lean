/- A part of the proof. -/
import Derived.Test.YtopknkghclncnaaGreatDoorx0
set_option linter.all false
namespace Go.Lf
open Go
structure Ann where
 take : Bool := false
 vis : Option (List Nat) := none
 root : Option (Option Nat) := none
 deriving Inhabited
structure YK where
 id : Nat
 anns : List (Nat × Ann)
 keep : List Nat
 deriving Inhabited
def cv1 : Value → Option DV
 | .bool b => some (.bool b)
 | .int .i64 n => some (.int n)
 | .slice none 0 0 => some .nils
 | .map none => some .nilmap
 | .nilFunc => some .nilfn
 | _ => none
def cvs : List Value → Option (List DV)
 | [] => some []
 | x :: r => match cv1 x, cvs r with
  | some y, some ys => some (y :: ys)
  | _, _ => none
def cv : Value → Option DV
 | .agg cs => (cvs cs.toList).map .agg
 | x => cv1 x
section
variable (P : Program)
def D1 (t : TypeId) : Option (Option Nat) := match P.underlying t, P.info? t with
 | some (.struct _), some i | some (.array _ _), some i => some (some i.size)
 | some _, some i => if i.size = 1 then some none else none
 | _, _ => none
def B1 (k : Option Nat) : Nat := k.getD 1
def U6 (t : TypeId) : Option DV := match P.info? t with
 | some i => match i.zero with
  | some v => cv v
  | none => none
 | none => none
def zeroCells (t : TypeId) : Option (List DV) := match D1 P t, U6 P t with
 | some k, some z => if z.cells.length = B1 k then some z.cells else none
 | _, _ => none
def FO (F : TypeId → Option Nat) : List Field → Nat → Option Nat
 | [], acc => some acc
 | f :: r, acc => if f.name = "_" ∨ f.offset ≠ acc then none else match F f.type with
  | some m => FO F r (acc + m)
  | none => none
def bytesOf (t : TypeId) : Option Nat := (P.info? t).map (·.bytes)
def Tm : Nat → TypeId → Option Nat
 | 0, _ => none
 | d + 1, t => match P.underlying t, P.info? t with
  | some (.int .i64), some i => if i.size = 1 then some 1 else none
  | some (.struct fs), some i => if P.stoodInHeld t = true then none else match FO (Tm d) fs.toList 0 with
   | some n => if i.size = n then some n else none
   | none => none
  | some (.array len e), some i => match Tm d e with
   | some m => if i.size = len * m then some (len * m) else none
   | none => none
  | _, _ => none
def ln (t : TypeId) : Option Nat := match Tm P 5 t, P.underlying t with
 | some n, some (.int _) => some n
 | some n, some _ => if n = 1 then none else some n
 | _, _ => none
def A2 : Operand → Option Opd
 | .tmp t => some (.tmp t)
 | .const v => (cv v).map .con
 | .global g => some (.glob g)
 | .func f => some (.con (.fn f [] []))
def KG (xs : Array Operand) : Option (List Opd) := xs.toList.mapM A2
def Ja : Option Operand → Option (Option Opd)
 | none => some none
 | some x => (A2 x).map some
def cM (fs : Array Field) (i : Nat) : Option (Nat × Nat) := match fs[i]? with
 | some f => (D1 P f.type).map fun k => (f.offset, B1 k)
 | none => none
def Jz (place : Nat → Option (Nat × Nat)) : List (Nat × Operand) → Option (List (Nat × Nat × Opd))
 | [] => some []
 | (i, x) :: r => match place i, A2 x, Jz place r with
  | some (off, n), some x, some l => some ((off, n, x) :: l)
  | _, _, _ => none
def oe (a : Ann) (op : Op) : Option LOp :=
 match op with
 | .move x | .assign x => do some (.move (← A2 x) a.take)
 | .pick c x y => do some (.pick (← A2 c) (← A2 x) (← A2 y))
 | .alloc t => do some (.alloc (← zeroCells P t))
 | .box t x => do some (.box (B1 (← D1 P t)) (← A2 x))
 | .build t ps => do
  let zs ← zeroCells P t
  match P.underlying t with
  | some (.struct fs) => if fs.toList.all (fun f => (P.info? f.type).isSome) then do some (.build zs (← Jz (cM P fs) ps.toList)) else none
  | some (.array _ e) => do
   let n := B1 (← D1 P e)
   some (.build zs (← Jz (fun i => some (i * n, n)) ps.toList))
  | _ => none
 | .buildSlice t len ps => match P.underlying t with
  | some (.slice e) => do
   let zs ← zeroCells P e
   let k ← D1 P e
   let n := B1 k
   if n = 0 ∨ len * n > 2 ^ 24 then none else do some (.lit k zs len (← Jz (fun i => some (i * n, n)) ps.toList))
  | _ => none
 | .makeMap t none => match P.underlying t with
  | some (.map key _) => do some (.mkmap (← ln P key))
  | _ => none
 | .insert t m k v | .mapUpdate t m k v => match P.underlying t with
  | some (.map key _) => do some (.mapset (← ln P key) (← A2 m) (← A2 k) (← A2 v))
  | _ => none
 | .load t p => do some (.load (← D1 P t) (← A2 p) a.take)
 | .store t p x => do some (.store (B1 (← D1 P t)) (← A2 p) (← A2 x))
 | .fieldAddr t x f => match P.underlying t with
  | some (.struct fs) => match cM P fs f with
   | some (off, n) => if n = 0 then none else do some (.faddr off (← A2 x))
   | none => none
  | _ => none
 | .field t x f => match P.underlying t with
  | some (.struct fs) => match fs[f]? with
   | some f => do some (.field (← D1 P f.type) f.offset (← A2 x))
   | none => none
  | _ => none
 | .indexAddr t x i => match P.underlying t with
  | some (.slice e) => do some (.iaddrS (B1 (← D1 P e)) (← A2 x) (← A2 i))
  | some (.array n e) => do some (.iaddrA (B1 (← D1 P e)) n (← A2 x) (← A2 i))
  | _ => none
 | .index t x i => match P.underlying t with
  | some (.array n e) => do let k ← D1 P e; some (.index k (B1 k) n (← A2 x) (← A2 i))
  | _ => none
 | .binOp op t x y _ => match P.underlying t with
  | some (.int .i64) => do some (.bin op (← A2 x) (← A2 y))
  | some .bool => match op with
   | .eql => do some (.eqb false (← A2 x) (← A2 y))
   | .neq => do some (.eqb true (← A2 x) (← A2 y))
   | _ => none
  | some (.struct _) | some (.array _ _) => match Tm P 5 t with
   | some n => match op with
    | .eql => do some (.eqa false n (← A2 x) (← A2 y))
    | .neq => do some (.eqa true n (← A2 x) (← A2 y))
    | _ => none
   | none => none
  | _ => none
 | .unOp op _ x => do some (.un op (← A2 x))
 | .makeFunc (.func f) first cap => do some (.mkfn f (← KG first) (← KG cap))
 | .slice t x lo hi mx => match P.underlying t with
  | some (.slice e) => do some (.slice (B1 (← D1 P e)) (← A2 x) (← Ja lo) (← Ja hi) (← Ja mx))
  | _ => none
 | .lookup t m k ok => match P.underlying t with
  | some (.map key e) => do some (.lookup (← ln P key) (← A2 m) (← A2 k) ok (← U6 P e))
  | _ => none
 | .mapEntry t m k => match P.underlying t with
  | some (.map key e) => do some (.mentry (← ln P key) (← A2 m) (← A2 k) (← U6 P e))
  | _ => none
 | .entryStore t m i x => match P.underlying t with
  | some (.map key _) => do some (.mstore (← ln P key) (← A2 m) (← A2 i) (← A2 x))
  | _ => none
 | .extract x i => do some (.extract i (← A2 x) a.take)
 | .call c => match c.callee with
  | .value f => do some (.call (← A2 f) (← KG c.args) a.vis)
  | .builtin .len => match c.argTypes[0]?, c.args[0]?, c.args.size with
   | some t, some x, 1 => match P.underlying t with
    | some (.slice _) => do some (.len (← A2 x))
    | some (.array n _) => some (.move (.con (.int n)) false)
    | _ => none
   | _, _, _ => none
  | .builtin .append => match c.argTypes[0]?, c.argTypes[1]?, c.args[0]?, c.args[1]?, c.args.size, c.argTypes.size with
   | some t, some u, some x, some y, 2, 2 => match P.underlying t, P.underlying u with
    | some (.slice e), some (.slice _) => do
     let n := B1 (← D1 P e)
     let q ← bytesOf P e
     let _ ← zeroCells P e
     if n = 0 ∨ q = 0 then none else do some (.append n q (← A2 x) (← A2 y))
    | _, _ => none
   | _, _, _, _, _, _ => none
  | .builtin .min => do some (.minmax false (← KG c.args))
  | .builtin .max => do some (.minmax true (← KG c.args))
  | _ => none
 | _ => none
def LOp.mute : LOp → Bool
 | .store _ _ _ | .mapset _ _ _ _ | .mstore _ _ _ _ => true
 | _ => false
def Yh (o : Oper) (ops : Array Oper) : Option (Option (Nat × Bool)) := match o.guard with
 | none => some none
 | some (j, b) => match (ops[j]?).bind (·.dst) with
  | some t => some (some (t, b))
  | none => none
def K4 (a : Ann) (o : Oper) (ops : Array Oper) : AI := match Yh o ops, oe P a o.op with
 | some g, some op => if op.mute && o.dst.isSome then { dst := o.dst, op := .bad, guard := none } else { dst := o.dst, op, guard := g, root := a.root }
 | _, _ => { dst := o.dst, op := .bad, guard := none }
def YK.find (l : List YK) (id : Nat) : YK := (l.find? (·.id == id)).getD { id, anns := [], keep := [] }
def Su (r : YK) (ops : Array Oper) : List AI :=
 (List.range ops.size).map fun i => K4 P ((r.anns.lookup i).getD {}) (ops.getD i default) ops
def DL (l : List YK) : Code → Ci
 | .skip | .label _ => .skip
 | .region id ops _ => let r := YK.find l id; .ops (Su P r ops) r.keep
 | .seq a b => .seq (DL l a) (DL l b)
 | .cond c a b => match A2 c with
  | some c => .cond c (DL l a) (DL l b)
  | none => .cond (.con .bot) .skip .skip
 | .block id c => .block id (DL l c)
 | .loop c => .loop (DL l c)
 | .scope c => .scope (DL l c)
 | .rangeFunc f ps a b => match A2 f with
  | some f => .rng f ps.toList (DL l a) (DL l b)
  | none => .cond (.con .bot) .skip .skip
 | .exit id => .exit id
 | .ret => .ret
 | .goto _ | .refuse _ => .cond (.con .bot) .skip .skip
def P2 : ResultVar → Option (Nat × Option (Option Nat))
 | .tmp t => some (t, none)
 | .cell a t => (D1 P t).map fun k => (a, some k)
def w8 (l : List YK) (f : Func) : Option OE := match f.body with
 | some c => match f.results.toList.mapM (P2 P) with
  | some rs => some { nparams := f.params.size + f.nfree, results := rs, body := DL P l c }
  | none => none
 | none => none
end
end Go.Lf
