/- A part of the proof. -/
import Derived.Test.YtohgomfnigdaoaaDoorx0
set_option linter.all false
namespace Go.Lf
open Go
section
variable {LP : A2}
def dM (LP : A2) (g : Nat) (o : AH) (s s' : St) : Prop := ∃ n, Ai LP (GN LP n) g o s = some s'
def Ij (LP : A2) (g : Nat) (ops : List AH) (s s' : St) : Prop := ∃ n, evalOps LP (GN LP n) g ops s = some s'
theorem Ij.nil {g : Nat} {s : St} : Ij LP g [] s s := ⟨0, rfl⟩
theorem Ij.cons {g : Nat} {o : AH} {r : List AH} {s s1 s' : St} (h : dM LP g o s s1) (h' : Ij LP (g + 1) r s1 s') : Ij LP g (o :: r) s s' := by
 obtain ⟨n, h⟩ := h
 obtain ⟨m, h'⟩ := h'
 refine ⟨max n m, ?_⟩
 simp only [evalOps]
 rw [Vt LP (FG LP (Nat.le_max_left n m)) h]
 exact UC LP (FG LP (Nat.le_max_right n m)) h'
theorem Po (C : AP) : ∀ (a b : List AH) (g : Nat) (s : St), evalOps LP C g (a ++ b) s = (evalOps LP C g a s).bind (evalOps LP C (g + a.length) b)
 | [], b, g, s => rfl
 | o :: a, b, g, s => by
  simp only [List.cons_append, evalOps, List.length_cons]
  cases Ai LP C g o s with
  | none => rfl
  | some s1 =>
   simp only
   rw [Po C a b (g + 1) s1, show g + 1 + a.length = g + (a.length + 1) by omega]
theorem Ij.plain {g : Nat} {a b ops : List AH} {s s1 s' : St} (ho : ops = a ++ b) (h : ∀ C, evalOps LP C g a s = some s1) (h' : Ij LP (g + a.length) b s1 s') : Ij LP g ops s s' := by
 obtain ⟨m, h'⟩ := h'
 subst ho
 refine ⟨m, ?_⟩
 rw [Po, h]
 exact h'
theorem Ij.done {g : Nat} {ops : List AH} {s s' : St} (h : ∀ C, evalOps LP C g ops s = some s') : Ij LP g ops s s' := ⟨0, h _⟩
theorem Ae.ops {ops : List AH} {keep : List Nat} {s s1 : St} (h : Ij LP s.ctr ops { s with ctr := s.ctr + ops.length } s1) : Ae LP (.ops ops keep) s .normal { s1 with env := s1.env.keep keep } := by
 obtain ⟨n, h⟩ := h
 exact ⟨n, by simp only [Ad, h]⟩
theorem Ae.plain {c : C0} {s s' : St} {jmp : xt} (h : ∀ C, Ad LP C 0 c s = some (jmp, s')) : Ae LP c s jmp s' := ⟨0, h _⟩
theorem Ae.skip {s : St} : Ae LP .skip s .normal s := ⟨0, rfl⟩
theorem Ae.exit {s : St} {id : Nat} : Ae LP (.exit id) s (.exit id) s := ⟨0, rfl⟩
theorem Ae.ret {s : St} : Ae LP .ret s .ret s := ⟨0, rfl⟩
theorem Ae.seq {a b : C0} {s s1 s' : St} {jmp : xt} (h : Ae LP a s .normal s1) (h' : Ae LP b s1 jmp s') : Ae LP (.seq a b) s jmp s' := by
 obtain ⟨n, h⟩ := h
 obtain ⟨m, h'⟩ := h'
 refine ⟨max n m, ?_⟩
 simp only [Ad]
 rw [Df LP (FG LP (Nat.le_max_left n m)) (Nat.le_max_left n m) h]
 exact Df LP (FG LP (Nat.le_max_right n m)) (Nat.le_max_right n m) h'
theorem Ae.seq_jump {a b : C0} {s s' : St} {jmp : xt} (h : Ae LP a s jmp s') (hj : jmp ≠ .normal) : Ae LP (.seq a b) s jmp s' := by
 obtain ⟨n, h⟩ := h
 refine ⟨n, ?_⟩
 simp only [Ad, h]
 cases jmp with
 | normal => exact absurd rfl hj
 | exit id => rfl
 | ret => rfl
theorem Ae.cond {x : yV} {a b : C0} {s s' : St} {jmp : xt} {c : Bool} (hc : F4 (s.val LP x) = some c) (h : Ae LP (if c then a else b) s jmp s') : Ae LP (.cond x a b) s jmp s' := by
 obtain ⟨n, h⟩ := h
 refine ⟨n, ?_⟩
 simp only [Ad, hc]
 cases c <;> exact h
theorem Ae.condT {x : yV} {a b : C0} {s s' : St} {jmp : xt} {c : Bool} (hc : F4 (s.val LP x) = some c) (ht : c = true) (h : Ae LP a s jmp s') : Ae LP (.cond x a b) s jmp s' := by
 subst ht; exact Ae.cond hc h
theorem Ae.condF {x : yV} {a b : C0} {s s' : St} {jmp : xt} {c : Bool} (hc : F4 (s.val LP x) = some c) (ht : c = false) (h : Ae LP b s jmp s') : Ae LP (.cond x a b) s jmp s' := by
 subst ht; exact Ae.cond hc h
theorem Ae.block {id : Nat} {c : C0} {s s' : St} (h : Ae LP c s .normal s') : Ae LP (.block id c) s .normal s' := by
 obtain ⟨n, h⟩ := h
 exact ⟨n, by simp only [Ad, h]⟩
theorem Ae.block_exit {id : Nat} {c : C0} {s s' : St} (h : Ae LP c s (.exit id) s') : Ae LP (.block id c) s .normal s' := by
 obtain ⟨n, h⟩ := h
 exact ⟨n, by simp only [Ad, h, if_true]⟩
theorem Ae.block_pass {id i : Nat} {c : C0} {s s' : St} (h : Ae LP c s (.exit i) s') (hi : i ≠ id) : Ae LP (.block id c) s (.exit i) s' := by
 obtain ⟨n, h⟩ := h
 exact ⟨n, by simp only [Ad, h, if_neg hi]⟩
theorem Ae.block_ret {id : Nat} {c : C0} {s s' : St} (h : Ae LP c s .ret s') : Ae LP (.block id c) s .ret s' := by
 obtain ⟨n, h⟩ := h
 exact ⟨n, by simp only [Ad, h]⟩
theorem Ae.scope {c : C0} {s s' : St} {jmp : xt} (h : Ae LP c s jmp s') : Ae LP (.scope c) s jmp s' := by
 obtain ⟨n, h⟩ := h
 exact ⟨n, by simp only [Ad, h]⟩
theorem Ae.loop {c : C0} {s s1 s' : St} {jmp : xt} (h : Ae LP c s .normal s1) (h' : Ae LP (.loop c) s1 jmp s') : Ae LP (.loop c) s jmp s' := by
 obtain ⟨n, h⟩ := h
 obtain ⟨m, h'⟩ := h'
 refine ⟨max n m + 1, ?_⟩
 have h1 := Df LP (FG LP (n := n) (m := max n m + 1) (by omega)) (n := n) (m := max n m + 1) (by omega) h
 simp only [Ad] at h' ⊢
 simp only [nN, h1]
 exact ip (fun s r hr => Df LP (FG LP (n := m) (m := max n m + 1) (by omega)) (n := m) (m := max n m + 1) (by omega) hr) (by omega) h'
theorem Ae.loop_jump {c : C0} {s s' : St} {jmp : xt} (h : Ae LP c s jmp s') (hj : jmp ≠ .normal) : Ae LP (.loop c) s jmp s' := by
 obtain ⟨n, h⟩ := h
 refine ⟨n + 1, ?_⟩
 have h1 := Df LP (FG LP (n := n) (m := n + 1) (by omega)) (n := n) (m := n + 1) (by omega) h
 simp only [Ad, nN, h1]
 cases jmp with
 | normal => exact absurd rfl hj
 | exit id => rfl
 | ret => rfl
theorem qO.func {f : Nat} {lf : NV} {args : List LV} {low : List Fr} {ctr : Nat} {jmp : xt} {s : St} {v : LV} (hf : LP.funcs f = some lf) (hl : args.length = lf.nparams)
  (hc : Ae LP lf.body { env := Dj 0 args, low, ctr } jmp s) (hj : jmp = .normal ∨ jmp = .ret)
  (hr : (match lf.results.mapM fun r => (DX s r).bind (freeze s.low.length s.env 9) with
   | some [x] => some x
   | some xs => some (LV.norm (.tup xs))
   | none => none) = some v) : qO LP f args low ctr v s.low s.ctr := by
 obtain ⟨n, hc⟩ := hc
 have hn : Ad LP (GN LP n) n lf.body { env := Dj 0 args, low, ctr } = some (jmp, s) := hc
 refine ⟨n + 1, ?_⟩
 simp only [GN, MR, hf]
 rw [if_pos hl, hn]
 have yx : (match lf.results.mapM fun r => (DX s r).bind (freeze s.low.length s.env 9) with
   | some [x] => some (x, s.low, s.ctr)
   | some xs => some (LV.norm (.tup xs), s.low, s.ctr)
   | none => none) = some (v, s.low, s.ctr) := by
  split at hr
  ·simp only [Option.some.injEq] at hr; rw [hr]
  ·rename_i xs hx hne
   simp only [Option.some.injEq] at hr
   rw [← hr]
  ·simp at hr
 rcases hj with rfl | rfl <;> exact yx
theorem dM.pure {g : Nat} {o : AH} {f : yV} {args : List yV} {s s' : St} {fi : Nat} {a b : List LV} {ads ds bds : List DV} {v : LV} {d : DV} {low' : List Fr} {c' : Nat}
  (ho : ∀ C, Ai LP C g o s = evalOp LP C g o.dst (.call f args none) s) (ht : target (s.val LP f) = some (fi, a, b)) (hds : AX (args.map (s.val LP)) = some ds) (ha : AX a = some ads) (hb : AX b = some bds)
  (hc : qO LP fi ((ads ++ ds ++ bds).map .d) [] 0 v low' c') (hd : v.toD = some d) (hp : s.put o.dst (.d d) = some s') : dM LP g o s s' := by
 obtain ⟨n, hc⟩ := hc
 refine ⟨n, ?_⟩
 rw [ho]
 simp only [evalOp, ht, hds, ha, hb, hc, hd]
 exact hp
end
end Go.Lf
namespace Go.Lf
open Go
theorem wn (a b : Int) : CC (binOp .add 0 (.int .i64 a) (.int .i64 b)) = some (.int (IntKind.i64.wrap (a + b))) := rfl
theorem xF (a b : Int) : CC (binOp .sub 0 (.int .i64 a) (.int .i64 b)) = some (.int (IntKind.i64.wrap (a - b))) := rfl
theorem w9 (a b : Int) : CC (binOp .mul 0 (.int .i64 a) (.int .i64 b)) = some (.int (IntKind.i64.wrap (a * b))) := rfl
theorem xB (a b : Int) : CC (binOp .lss 0 (.int .i64 a) (.int .i64 b)) = some (.bool (decide (a < b))) := rfl
theorem xJ (a b : Int) : CC (binOp .leq 0 (.int .i64 a) (.int .i64 b)) = some (.bool (decide (a ≤ b))) := rfl
theorem wu (a b : Int) : CC (binOp .gtr 0 (.int .i64 a) (.int .i64 b)) = some (.bool (decide (b < a))) := rfl
theorem wq (a b : Int) : CC (binOp .geq 0 (.int .i64 a) (.int .i64 b)) = some (.bool (decide (b ≤ a))) := rfl
theorem vU (a b : Int) : CC (binOp .eql 0 (.int .i64 a) (.int .i64 b)) = some (.bool (a == b)) := rfl
theorem u9 (a b : Int) : CC (binOp .neq 0 (.int .i64 a) (.int .i64 b)) = some (.bool (!(a == b))) := rfl
theorem xI (b : Bool) : CC (Op.unary .not (.bool b)) = some (.bool (!b)) := rfl
theorem rz (k : Nat) (root : Option (Option Nat)) : Ao k root none = true := by cases root <;> rfl
theorem vu (k : Nat) (root : Option (Option Nat)) (v : DV) : Ao k root (some (.d v)) = true := by cases root <;> rfl
theorem u7 (k : Nat) : GQ (.d (.int k)) = some k := by simp [GQ]
end Go.Lf
