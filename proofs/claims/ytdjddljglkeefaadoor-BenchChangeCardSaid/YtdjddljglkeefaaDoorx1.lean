/- A part of the proof. -/
import Derived.Test.YtdjddljglkeefaaDoorx0
set_option linter.all false
namespace Go.Lf
open Go
section
variable {LP : BA}
def bU (LP : BA) (g : Nat) (o : AG) (s s' : St) : Prop := ∃ n, An LP (Gt LP n) g o s = some s'
def Io (LP : BA) (g : Nat) (ops : List AG) (s s' : St) : Prop := ∃ n, evalOps LP (Gt LP n) g ops s = some s'
theorem Io.nil {g : Nat} {s : St} : Io LP g [] s s := ⟨0, rfl⟩
theorem Io.cons {g : Nat} {o : AG} {r : List AG} {s s1 s' : St} (h : bU LP g o s s1) (h' : Io LP (g + 1) r s1 s') : Io LP g (o :: r) s s' := by
 obtain ⟨n, h⟩ := h
 obtain ⟨m, h'⟩ := h'
 refine ⟨max n m, ?_⟩
 simp only [evalOps]
 rw [W7 LP (E7 LP (Nat.le_max_left n m)) h]
 exact TV LP (E7 LP (Nat.le_max_right n m)) h'
theorem PR (C : AS) : ∀ (a b : List AG) (g : Nat) (s : St), evalOps LP C g (a ++ b) s = (evalOps LP C g a s).bind (evalOps LP C (g + a.length) b)
 | [], b, g, s => rfl
 | o :: a, b, g, s => by
  simp only [List.cons_append, evalOps, List.length_cons]
  cases An LP C g o s with
  | none => rfl
  | some s1 =>
   simp only
   rw [PR C a b (g + 1) s1, show g + 1 + a.length = g + (a.length + 1) by omega]
theorem Io.plain {g : Nat} {a b ops : List AG} {s s1 s' : St} (ho : ops = a ++ b) (h : ∀ C, evalOps LP C g a s = some s1) (h' : Io LP (g + a.length) b s1 s') : Io LP g ops s s' := by
 obtain ⟨m, h'⟩ := h'
 subst ho
 refine ⟨m, ?_⟩
 rw [PR, h]
 exact h'
theorem Io.done {g : Nat} {ops : List AG} {s s' : St} (h : ∀ C, evalOps LP C g ops s = some s') : Io LP g ops s s' := ⟨0, h _⟩
theorem Ae.ops {ops : List AG} {keep : List Nat} {s s1 : St} (h : Io LP s.ctr ops { s with ctr := s.ctr + ops.length } s1) : Ae LP (.ops ops keep) s .normal { s1 with env := s1.env.keep keep } := by
 obtain ⟨n, h⟩ := h
 exact ⟨n, by simp only [Ab, h]⟩
theorem Ae.plain {c : Cd} {s s' : St} {jmp : zR} (h : ∀ C, Ab LP C 0 c s = some (jmp, s')) : Ae LP c s jmp s' := ⟨0, h _⟩
theorem Ae.skip {s : St} : Ae LP .skip s .normal s := ⟨0, rfl⟩
theorem Ae.exit {s : St} {id : Nat} : Ae LP (.exit id) s (.exit id) s := ⟨0, rfl⟩
theorem Ae.ret {s : St} : Ae LP .ret s .ret s := ⟨0, rfl⟩
theorem Ae.seq {a b : Cd} {s s1 s' : St} {jmp : zR} (h : Ae LP a s .normal s1) (h' : Ae LP b s1 jmp s') : Ae LP (.seq a b) s jmp s' := by
 obtain ⟨n, h⟩ := h
 obtain ⟨m, h'⟩ := h'
 refine ⟨max n m, ?_⟩
 simp only [Ab]
 rw [Df LP (E7 LP (Nat.le_max_left n m)) (Nat.le_max_left n m) h]
 exact Df LP (E7 LP (Nat.le_max_right n m)) (Nat.le_max_right n m) h'
theorem Ae.seq_jump {a b : Cd} {s s' : St} {jmp : zR} (h : Ae LP a s jmp s') (hj : jmp ≠ .normal) : Ae LP (.seq a b) s jmp s' := by
 obtain ⟨n, h⟩ := h
 refine ⟨n, ?_⟩
 simp only [Ab, h]
 cases jmp with
 | normal => exact absurd rfl hj
 | exit id => rfl
 | ret => rfl
theorem Ae.cond {x : Opd} {a b : Cd} {s s' : St} {jmp : zR} {c : Bool} (hc : F3 (s.val LP x) = some c) (h : Ae LP (if c then a else b) s jmp s') : Ae LP (.cond x a b) s jmp s' := by
 obtain ⟨n, h⟩ := h
 refine ⟨n, ?_⟩
 simp only [Ab, hc]
 cases c <;> exact h
theorem Ae.condT {x : Opd} {a b : Cd} {s s' : St} {jmp : zR} {c : Bool} (hc : F3 (s.val LP x) = some c) (ht : c = true) (h : Ae LP a s jmp s') : Ae LP (.cond x a b) s jmp s' := by
 subst ht; exact Ae.cond hc h
theorem Ae.condF {x : Opd} {a b : Cd} {s s' : St} {jmp : zR} {c : Bool} (hc : F3 (s.val LP x) = some c) (ht : c = false) (h : Ae LP b s jmp s') : Ae LP (.cond x a b) s jmp s' := by
 subst ht; exact Ae.cond hc h
theorem Ae.block {id : Nat} {c : Cd} {s s' : St} (h : Ae LP c s .normal s') : Ae LP (.block id c) s .normal s' := by
 obtain ⟨n, h⟩ := h
 exact ⟨n, by simp only [Ab, h]⟩
theorem Ae.block_exit {id : Nat} {c : Cd} {s s' : St} (h : Ae LP c s (.exit id) s') : Ae LP (.block id c) s .normal s' := by
 obtain ⟨n, h⟩ := h
 exact ⟨n, by simp only [Ab, h, if_true]⟩
theorem Ae.block_pass {id i : Nat} {c : Cd} {s s' : St} (h : Ae LP c s (.exit i) s') (hi : i ≠ id) : Ae LP (.block id c) s (.exit i) s' := by
 obtain ⟨n, h⟩ := h
 exact ⟨n, by simp only [Ab, h, if_neg hi]⟩
theorem Ae.block_ret {id : Nat} {c : Cd} {s s' : St} (h : Ae LP c s .ret s') : Ae LP (.block id c) s .ret s' := by
 obtain ⟨n, h⟩ := h
 exact ⟨n, by simp only [Ab, h]⟩
theorem Ae.scope {c : Cd} {s s' : St} {jmp : zR} (h : Ae LP c s jmp s') : Ae LP (.scope c) s jmp s' := by
 obtain ⟨n, h⟩ := h
 exact ⟨n, by simp only [Ab, h]⟩
theorem Ae.loop {c : Cd} {s s1 s' : St} {jmp : zR} (h : Ae LP c s .normal s1) (h' : Ae LP (.loop c) s1 jmp s') : Ae LP (.loop c) s jmp s' := by
 obtain ⟨n, h⟩ := h
 obtain ⟨m, h'⟩ := h'
 refine ⟨max n m + 1, ?_⟩
 have h1 := Df LP (E7 LP (n := n) (m := max n m + 1) (by omega)) (n := n) (m := max n m + 1) (by omega) h
 simp only [Ab] at h' ⊢
 simp only [qO, h1]
 exact jL (fun s r hr => Df LP (E7 LP (n := m) (m := max n m + 1) (by omega)) (n := m) (m := max n m + 1) (by omega) hr) (by omega) h'
theorem Ae.loop_jump {c : Cd} {s s' : St} {jmp : zR} (h : Ae LP c s jmp s') (hj : jmp ≠ .normal) : Ae LP (.loop c) s jmp s' := by
 obtain ⟨n, h⟩ := h
 refine ⟨n + 1, ?_⟩
 have h1 := Df LP (E7 LP (n := n) (m := n + 1) (by omega)) (n := n) (m := n + 1) (by omega) h
 simp only [Ab, qO, h1]
 cases jmp with
 | normal => exact absurd rfl hj
 | exit id => rfl
 | ret => rfl
theorem sO.func {f : Nat} {lf : NU} {args : List LV} {low : List Fr} {ctr : Nat} {jmp : zR} {s : St} {v : LV} (hf : LP.funcs f = some lf) (hl : args.length = lf.nparams)
  (hc : Ae LP lf.body { env := DY 0 args, low, ctr } jmp s) (hj : jmp = .normal ∨ jmp = .ret)
  (hr : (match lf.results.mapM fun r => (DG s r).bind (freeze s.low.length s.env 9) with
   | some [x] => some x
   | some xs => some (LV.norm (.tup xs))
   | none => none) = some v) : sO LP f args low ctr v s.low s.ctr := by
 obtain ⟨n, hc⟩ := hc
 have hn : Ab LP (Gt LP n) n lf.body { env := DY 0 args, low, ctr } = some (jmp, s) := hc
 refine ⟨n + 1, ?_⟩
 simp only [Gt, M3, hf]
 rw [if_pos hl, hn]
 have zq : (match lf.results.mapM fun r => (DG s r).bind (freeze s.low.length s.env 9) with
   | some [x] => some (x, s.low, s.ctr)
   | some xs => some (LV.norm (.tup xs), s.low, s.ctr)
   | none => none) = some (v, s.low, s.ctr) := by
  split at hr
  ·simp only [Option.some.injEq] at hr; rw [hr]
  ·rename_i xs hx hne
   simp only [Option.some.injEq] at hr
   rw [← hr]
  ·simp at hr
 rcases hj with rfl | rfl <;> exact zq
theorem bU.pure {g : Nat} {o : AG} {f : Opd} {args : List Opd} {s s' : St} {fi : Nat} {a b : List LV} {ads ds bds : List DV} {v : LV} {d : DV} {low' : List Fr} {c' : Nat}
  (ho : ∀ C, An LP C g o s = evalOp LP C g o.dst (.call f args none) s) (ht : target (s.val LP f) = some (fi, a, b)) (hds : AZ (args.map (s.val LP)) = some ds) (ha : AZ a = some ads) (hb : AZ b = some bds)
  (hc : sO LP fi ((ads ++ ds ++ bds).map .d) [] 0 v low' c') (hd : v.toD = some d) (hp : s.put o.dst (.d d) = some s') : bU LP g o s s' := by
 obtain ⟨n, hc⟩ := hc
 refine ⟨n, ?_⟩
 rw [ho]
 simp only [evalOp, ht, hds, ha, hb, hc, hd]
 exact hp
end
end Go.Lf
namespace Go.Lf
open Go
theorem yS (a b : Int) : B2 (binOp .add 0 (.int .i64 a) (.int .i64 b)) = some (.int (IntKind.i64.wrap (a + b))) := rfl
theorem ya (a b : Int) : B2 (binOp .sub 0 (.int .i64 a) (.int .i64 b)) = some (.int (IntKind.i64.wrap (a - b))) := rfl
theorem yk (a b : Int) : B2 (binOp .mul 0 (.int .i64 a) (.int .i64 b)) = some (.int (IntKind.i64.wrap (a * b))) := rfl
theorem yY (a b : Int) : B2 (binOp .lss 0 (.int .i64 a) (.int .i64 b)) = some (.bool (decide (a < b))) := rfl
theorem yW (a b : Int) : B2 (binOp .leq 0 (.int .i64 a) (.int .i64 b)) = some (.bool (decide (a ≤ b))) := rfl
theorem yc (a b : Int) : B2 (binOp .gtr 0 (.int .i64 a) (.int .i64 b)) = some (.bool (decide (b < a))) := rfl
theorem ym (a b : Int) : B2 (binOp .geq 0 (.int .i64 a) (.int .i64 b)) = some (.bool (decide (b ≤ a))) := rfl
theorem wI (a b : Int) : B2 (binOp .eql 0 (.int .i64 a) (.int .i64 b)) = some (.bool (a == b)) := rfl
theorem wm (a b : Int) : B2 (binOp .neq 0 (.int .i64 a) (.int .i64 b)) = some (.bool (!(a == b))) := rfl
theorem yl (b : Bool) : B2 (Op.unary .not (.bool b)) = some (.bool (!b)) := rfl
theorem tq (k : Nat) (root : Option (Option Nat)) : Au k root none = true := by cases root <;> rfl
theorem xi (k : Nat) (root : Option (Option Nat)) (v : DV) : Au k root (some (.d v)) = true := by cases root <;> rfl
theorem wV (k : Nat) : F9 (.d (.int k)) = some k := by simp [F9]
end Go.Lf
