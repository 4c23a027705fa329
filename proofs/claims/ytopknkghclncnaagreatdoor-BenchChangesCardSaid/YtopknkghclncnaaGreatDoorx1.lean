/- A part of the proof. -/
import Derived.Test.YtopknkghclncnaaGreatDoorx0
set_option linter.all false
namespace Go.Lf
open Go
section
variable {LP : BA}
def d5 (LP : BA) (g : Nat) (o : AI) (s s' : St) : Prop := ∃ n, Ao LP (HV LP n) g o s = some s'
def JK (LP : BA) (g : Nat) (ops : List AI) (s s' : St) : Prop := ∃ n, evalOps LP (HV LP n) g ops s = some s'
theorem JK.nil {g : Nat} {s : St} : JK LP g [] s s := ⟨0, rfl⟩
theorem JK.cons {g : Nat} {o : AI} {r : List AI} {s s1 s' : St} (h : d5 LP g o s s1) (h' : JK LP (g + 1) r s1 s') : JK LP g (o :: r) s s' := by
 obtain ⟨n, h⟩ := h
 obtain ⟨m, h'⟩ := h'
 refine ⟨max n m, ?_⟩
 simp only [evalOps]
 rw [W5 LP (Fh LP (Nat.le_max_left n m)) h]
 exact Um LP (Fh LP (Nat.le_max_right n m)) h'
theorem Qf (C : AV) : ∀ (a b : List AI) (g : Nat) (s : St), evalOps LP C g (a ++ b) s = (evalOps LP C g a s).bind (evalOps LP C (g + a.length) b)
 | [], b, g, s => rfl
 | o :: a, b, g, s => by
  simp only [List.cons_append, evalOps, List.length_cons]
  cases Ao LP C g o s with
  | none => rfl
  | some s1 =>
   simp only
   rw [Qf C a b (g + 1) s1, show g + 1 + a.length = g + (a.length + 1) by omega]
theorem JK.plain {g : Nat} {a b ops : List AI} {s s1 s' : St} (ho : ops = a ++ b) (h : ∀ C, evalOps LP C g a s = some s1) (h' : JK LP (g + a.length) b s1 s') : JK LP g ops s s' := by
 obtain ⟨m, h'⟩ := h'
 subst ho
 refine ⟨m, ?_⟩
 rw [Qf, h]
 exact h'
theorem JK.done {g : Nat} {ops : List AI} {s s' : St} (h : ∀ C, evalOps LP C g ops s = some s') : JK LP g ops s s' := ⟨0, h _⟩
theorem Af.ops {ops : List AI} {keep : List Nat} {s s1 : St} (h : JK LP s.ctr ops { s with ctr := s.ctr + ops.length } s1) : Af LP (.ops ops keep) s .normal { s1 with env := s1.env.keep keep } := by
 obtain ⟨n, h⟩ := h
 exact ⟨n, by simp only [Ac, h]⟩
theorem Af.plain {c : Ci} {s s' : St} {jmp : Jmp} (h : ∀ C, Ac LP C 0 c s = some (jmp, s')) : Af LP c s jmp s' := ⟨0, h _⟩
theorem Af.skip {s : St} : Af LP .skip s .normal s := ⟨0, rfl⟩
theorem Af.exit {s : St} {id : Nat} : Af LP (.exit id) s (.exit id) s := ⟨0, rfl⟩
theorem Af.ret {s : St} : Af LP .ret s .ret s := ⟨0, rfl⟩
theorem Af.seq {a b : Ci} {s s1 s' : St} {jmp : Jmp} (h : Af LP a s .normal s1) (h' : Af LP b s1 jmp s') : Af LP (.seq a b) s jmp s' := by
 obtain ⟨n, h⟩ := h
 obtain ⟨m, h'⟩ := h'
 refine ⟨max n m, ?_⟩
 simp only [Ac]
 rw [Dn LP (Fh LP (Nat.le_max_left n m)) (Nat.le_max_left n m) h]
 exact Dn LP (Fh LP (Nat.le_max_right n m)) (Nat.le_max_right n m) h'
theorem Af.seq_jump {a b : Ci} {s s' : St} {jmp : Jmp} (h : Af LP a s jmp s') (hj : jmp ≠ .normal) : Af LP (.seq a b) s jmp s' := by
 obtain ⟨n, h⟩ := h
 refine ⟨n, ?_⟩
 simp only [Ac, h]
 cases jmp with
 | normal => exact absurd rfl hj
 | exit id => rfl
 | ret => rfl
theorem Af.cond {x : Opd} {a b : Ci} {s s' : St} {jmp : Jmp} {c : Bool} (hc : Gl (s.val LP x) = some c) (h : Af LP (if c then a else b) s jmp s') : Af LP (.cond x a b) s jmp s' := by
 obtain ⟨n, h⟩ := h
 refine ⟨n, ?_⟩
 simp only [Ac, hc]
 cases c <;> exact h
theorem Af.condT {x : Opd} {a b : Ci} {s s' : St} {jmp : Jmp} {c : Bool} (hc : Gl (s.val LP x) = some c) (ht : c = true) (h : Af LP a s jmp s') : Af LP (.cond x a b) s jmp s' := by
 subst ht; exact Af.cond hc h
theorem Af.condF {x : Opd} {a b : Ci} {s s' : St} {jmp : Jmp} {c : Bool} (hc : Gl (s.val LP x) = some c) (ht : c = false) (h : Af LP b s jmp s') : Af LP (.cond x a b) s jmp s' := by
 subst ht; exact Af.cond hc h
theorem Af.block {id : Nat} {c : Ci} {s s' : St} (h : Af LP c s .normal s') : Af LP (.block id c) s .normal s' := by
 obtain ⟨n, h⟩ := h
 exact ⟨n, by simp only [Ac, h]⟩
theorem Af.block_exit {id : Nat} {c : Ci} {s s' : St} (h : Af LP c s (.exit id) s') : Af LP (.block id c) s .normal s' := by
 obtain ⟨n, h⟩ := h
 exact ⟨n, by simp only [Ac, h, if_true]⟩
theorem Af.block_pass {id i : Nat} {c : Ci} {s s' : St} (h : Af LP c s (.exit i) s') (hi : i ≠ id) : Af LP (.block id c) s (.exit i) s' := by
 obtain ⟨n, h⟩ := h
 exact ⟨n, by simp only [Ac, h, if_neg hi]⟩
theorem Af.block_ret {id : Nat} {c : Ci} {s s' : St} (h : Af LP c s .ret s') : Af LP (.block id c) s .ret s' := by
 obtain ⟨n, h⟩ := h
 exact ⟨n, by simp only [Ac, h]⟩
theorem Af.scope {c : Ci} {s s' : St} {jmp : Jmp} (h : Af LP c s jmp s') : Af LP (.scope c) s jmp s' := by
 obtain ⟨n, h⟩ := h
 exact ⟨n, by simp only [Ac, h]⟩
theorem Af.loop {c : Ci} {s s1 s' : St} {jmp : Jmp} (h : Af LP c s .normal s1) (h' : Af LP (.loop c) s1 jmp s') : Af LP (.loop c) s jmp s' := by
 obtain ⟨n, h⟩ := h
 obtain ⟨m, h'⟩ := h'
 refine ⟨max n m + 1, ?_⟩
 have h1 := Dn LP (Fh LP (n := n) (m := max n m + 1) (by omega)) (n := n) (m := max n m + 1) (by omega) h
 simp only [Ac] at h' ⊢
 simp only [uE, h1]
 exact nn (fun s r hr => Dn LP (Fh LP (n := m) (m := max n m + 1) (by omega)) (n := m) (m := max n m + 1) (by omega) hr) (by omega) h'
theorem Af.loop_jump {c : Ci} {s s' : St} {jmp : Jmp} (h : Af LP c s jmp s') (hj : jmp ≠ .normal) : Af LP (.loop c) s jmp s' := by
 obtain ⟨n, h⟩ := h
 refine ⟨n + 1, ?_⟩
 have h1 := Dn LP (Fh LP (n := n) (m := n + 1) (by omega)) (n := n) (m := n + 1) (by omega) h
 simp only [Ac, uE, h1]
 cases jmp with
 | normal => exact absurd rfl hj
 | exit id => rfl
 | ret => rfl
theorem wU.func {f : Nat} {lf : OE} {args : List LV} {low : List Fr} {ctr : Nat} {jmp : Jmp} {s : St} {v : LV} (hf : LP.funcs f = some lf) (hl : args.length = lf.nparams)
  (hc : Af LP lf.body { env := Ds 0 args, low, ctr } jmp s) (hj : jmp = .normal ∨ jmp = .ret)
  (hr : (match lf.results.mapM fun r => (DW s r).bind (freeze s.low.length s.env 9) with
   | some [x] => some x
   | some xs => some (LV.norm (.tup xs))
   | none => none) = some v) : wU LP f args low ctr v s.low s.ctr := by
 obtain ⟨n, hc⟩ := hc
 have hn : Ac LP (HV LP n) n lf.body { env := Ds 0 args, low, ctr } = some (jmp, s) := hc
 refine ⟨n + 1, ?_⟩
 simp only [HV, NB, hf]
 rw [if_pos hl, hn]
 have fin : (match lf.results.mapM fun r => (DW s r).bind (freeze s.low.length s.env 9) with
   | some [x] => some (x, s.low, s.ctr)
   | some xs => some (LV.norm (.tup xs), s.low, s.ctr)
   | none => none) = some (v, s.low, s.ctr) := by
  split at hr
  ·simp only [Option.some.injEq] at hr; rw [hr]
  ·rename_i xs hx hne
   simp only [Option.some.injEq] at hr
   rw [← hr]
  ·simp at hr
 rcases hj with rfl | rfl <;> exact fin
theorem d5.pure {g : Nat} {o : AI} {f : Opd} {args : List Opd} {s s' : St} {fi : Nat} {a b : List LV} {ads ds bds : List DV} {v : LV} {d : DV} {low' : List Fr} {c' : Nat}
  (ho : ∀ C, Ao LP C g o s = evalOp LP C g o.dst (.call f args none) s) (ht : target (s.val LP f) = some (fi, a, b)) (hds : AZ (args.map (s.val LP)) = some ds) (ha : AZ a = some ads) (hb : AZ b = some bds)
  (hc : wU LP fi ((ads ++ ds ++ bds).map .d) [] 0 v low' c') (hd : v.toD = some d) (hp : s.put o.dst (.d d) = some s') : d5 LP g o s s' := by
 obtain ⟨n, hc⟩ := hc
 refine ⟨n, ?_⟩
 rw [ho]
 simp only [evalOp, ht, hds, ha, hb, hc, hd]
 exact hp
end
end Go.Lf
namespace Go.Lf
open Go
theorem ABT (a b : Int) : CP (binOp .add 0 (.int .i64 a) (.int .i64 b)) = some (.int (IntKind.i64.wrap (a + b))) := rfl
theorem ABI (a b : Int) : CP (binOp .sub 0 (.int .i64 a) (.int .i64 b)) = some (.int (IntKind.i64.wrap (a - b))) := rfl
theorem ABW (a b : Int) : CP (binOp .mul 0 (.int .i64 a) (.int .i64 b)) = some (.int (IntKind.i64.wrap (a * b))) := rfl
theorem ABR (a b : Int) : CP (binOp .lss 0 (.int .i64 a) (.int .i64 b)) = some (.bool (decide (a < b))) := rfl
theorem ABH (a b : Int) : CP (binOp .leq 0 (.int .i64 a) (.int .i64 b)) = some (.bool (decide (a ≤ b))) := rfl
theorem ABN (a b : Int) : CP (binOp .gtr 0 (.int .i64 a) (.int .i64 b)) = some (.bool (decide (b < a))) := rfl
theorem ABF (a b : Int) : CP (binOp .geq 0 (.int .i64 a) (.int .i64 b)) = some (.bool (decide (b ≤ a))) := rfl
theorem za (a b : Int) : CP (binOp .eql 0 (.int .i64 a) (.int .i64 b)) = some (.bool (a == b)) := rfl
theorem AAH (a b : Int) : CP (binOp .neq 0 (.int .i64 a) (.int .i64 b)) = some (.bool (!(a == b))) := rfl
theorem ABL (b : Bool) : CP (Op.unary .not (.bool b)) = some (.bool (!b)) := rfl
theorem wm (k : Nat) (root : Option (Option Nat)) : Az k root none = true := by cases root <;> rfl
theorem AAc (k : Nat) (root : Option (Option Nat)) (v : DV) : Az k root (some (.d v)) = true := by cases root <;> rfl
theorem zI (k : Nat) : Gu (.d (.int k)) = some k := by simp [Gu]
end Go.Lf
