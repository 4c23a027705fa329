/- A part of the proof. -/
import Derived.Test.YtohgomfnigdaoaaDoory0
set_option linter.all false
namespace Go.Lf
open Go
section
variable {LP : A6}
def dS (LP : A6) (g : Nat) (o : AH) (s s' : St) : Prop := ∃ n, Am LP (Gm LP n) g o s = some s'
def Ix (LP : A6) (g : Nat) (ops : List AH) (s s' : St) : Prop := ∃ n, evalOps LP (Gm LP n) g ops s = some s'
theorem Ix.nil {g : Nat} {s : St} : Ix LP g [] s s := ⟨0, rfl⟩
theorem Ix.cons {g : Nat} {o : AH} {r : List AH} {s s1 s' : St} (h : dS LP g o s s1) (h' : Ix LP (g + 1) r s1 s') : Ix LP g (o :: r) s s' := by
 obtain ⟨n, h⟩ := h
 obtain ⟨m, h'⟩ := h'
 refine ⟨max n m, ?_⟩
 simp only [evalOps]
 rw [W3 LP (Fa LP (Nat.le_max_left n m)) h]
 exact Tt LP (Fa LP (Nat.le_max_right n m)) h'
theorem Pz (C : AS) : ∀ (a b : List AH) (g : Nat) (s : St), evalOps LP C g (a ++ b) s = (evalOps LP C g a s).bind (evalOps LP C (g + a.length) b)
 | [], b, g, s => rfl
 | o :: a, b, g, s => by
  simp only [List.cons_append, evalOps, List.length_cons]
  cases Am LP C g o s with
  | none => rfl
  | some s1 =>
   simp only
   rw [Pz C a b (g + 1) s1, show g + 1 + a.length = g + (a.length + 1) by omega]
theorem Ix.plain {g : Nat} {a b ops : List AH} {s s1 s' : St} (ho : ops = a ++ b) (h : ∀ C, evalOps LP C g a s = some s1) (h' : Ix LP (g + a.length) b s1 s') : Ix LP g ops s s' := by
 obtain ⟨m, h'⟩ := h'
 subst ho
 refine ⟨m, ?_⟩
 rw [Pz, h]
 exact h'
theorem Ix.done {g : Nat} {ops : List AH} {s s' : St} (h : ∀ C, evalOps LP C g ops s = some s') : Ix LP g ops s s' := ⟨0, h _⟩
theorem Ag.ops {ops : List AH} {keep : List Nat} {s s1 : St} (h : Ix LP s.ctr ops { s with ctr := s.ctr + ops.length } s1) : Ag LP (.ops ops keep) s .normal { s1 with env := s1.env.keep keep } := by
 obtain ⟨n, h⟩ := h
 exact ⟨n, by simp only [Af, h]⟩
theorem Ag.plain {c : DC} {s s' : St} {jmp : Jmp} (h : ∀ C, Af LP C 0 c s = some (jmp, s')) : Ag LP c s jmp s' := ⟨0, h _⟩
theorem Ag.skip {s : St} : Ag LP .skip s .normal s := ⟨0, rfl⟩
theorem Ag.exit {s : St} {id : Nat} : Ag LP (.exit id) s (.exit id) s := ⟨0, rfl⟩
theorem Ag.ret {s : St} : Ag LP .ret s .ret s := ⟨0, rfl⟩
theorem Ag.seq {a b : DC} {s s1 s' : St} {jmp : Jmp} (h : Ag LP a s .normal s1) (h' : Ag LP b s1 jmp s') : Ag LP (.seq a b) s jmp s' := by
 obtain ⟨n, h⟩ := h
 obtain ⟨m, h'⟩ := h'
 refine ⟨max n m, ?_⟩
 simp only [Af]
 rw [Dy LP (Fa LP (Nat.le_max_left n m)) (Nat.le_max_left n m) h]
 exact Dy LP (Fa LP (Nat.le_max_right n m)) (Nat.le_max_right n m) h'
theorem Ag.seq_jump {a b : DC} {s s' : St} {jmp : Jmp} (h : Ag LP a s jmp s') (hj : jmp ≠ .normal) : Ag LP (.seq a b) s jmp s' := by
 obtain ⟨n, h⟩ := h
 refine ⟨n, ?_⟩
 simp only [Af, h]
 cases jmp with
 | normal => exact absurd rfl hj
 | exit id => rfl
 | ret => rfl
theorem Ag.cond {x : Opd} {a b : DC} {s s' : St} {jmp : Jmp} {c : Bool} (hc : GU (s.val LP x) = some c) (h : Ag LP (if c then a else b) s jmp s') : Ag LP (.cond x a b) s jmp s' := by
 obtain ⟨n, h⟩ := h
 refine ⟨n, ?_⟩
 simp only [Af, hc]
 cases c <;> exact h
theorem Ag.condT {x : Opd} {a b : DC} {s s' : St} {jmp : Jmp} {c : Bool} (hc : GU (s.val LP x) = some c) (ht : c = true) (h : Ag LP a s jmp s') : Ag LP (.cond x a b) s jmp s' := by
 subst ht; exact Ag.cond hc h
theorem Ag.condF {x : Opd} {a b : DC} {s s' : St} {jmp : Jmp} {c : Bool} (hc : GU (s.val LP x) = some c) (ht : c = false) (h : Ag LP b s jmp s') : Ag LP (.cond x a b) s jmp s' := by
 subst ht; exact Ag.cond hc h
theorem Ag.block {id : Nat} {c : DC} {s s' : St} (h : Ag LP c s .normal s') : Ag LP (.block id c) s .normal s' := by
 obtain ⟨n, h⟩ := h
 exact ⟨n, by simp only [Af, h]⟩
theorem Ag.block_exit {id : Nat} {c : DC} {s s' : St} (h : Ag LP c s (.exit id) s') : Ag LP (.block id c) s .normal s' := by
 obtain ⟨n, h⟩ := h
 exact ⟨n, by simp only [Af, h, if_true]⟩
theorem Ag.block_pass {id i : Nat} {c : DC} {s s' : St} (h : Ag LP c s (.exit i) s') (hi : i ≠ id) : Ag LP (.block id c) s (.exit i) s' := by
 obtain ⟨n, h⟩ := h
 exact ⟨n, by simp only [Af, h, if_neg hi]⟩
theorem Ag.block_ret {id : Nat} {c : DC} {s s' : St} (h : Ag LP c s .ret s') : Ag LP (.block id c) s .ret s' := by
 obtain ⟨n, h⟩ := h
 exact ⟨n, by simp only [Af, h]⟩
theorem Ag.scope {c : DC} {s s' : St} {jmp : Jmp} (h : Ag LP c s jmp s') : Ag LP (.scope c) s jmp s' := by
 obtain ⟨n, h⟩ := h
 exact ⟨n, by simp only [Af, h]⟩
theorem Ag.loop {c : DC} {s s1 s' : St} {jmp : Jmp} (h : Ag LP c s .normal s1) (h' : Ag LP (.loop c) s1 jmp s') : Ag LP (.loop c) s jmp s' := by
 obtain ⟨n, h⟩ := h
 obtain ⟨m, h'⟩ := h'
 refine ⟨max n m + 1, ?_⟩
 have h1 := Dy LP (Fa LP (n := n) (m := max n m + 1) (by omega)) (n := n) (m := max n m + 1) (by omega) h
 simp only [Af] at h' ⊢
 simp only [qR, h1]
 exact jV (fun s r hr => Dy LP (Fa LP (n := m) (m := max n m + 1) (by omega)) (n := m) (m := max n m + 1) (by omega) hr) (by omega) h'
theorem Ag.loop_jump {c : DC} {s s' : St} {jmp : Jmp} (h : Ag LP c s jmp s') (hj : jmp ≠ .normal) : Ag LP (.loop c) s jmp s' := by
 obtain ⟨n, h⟩ := h
 refine ⟨n + 1, ?_⟩
 have h1 := Dy LP (Fa LP (n := n) (m := n + 1) (by omega)) (n := n) (m := n + 1) (by omega) h
 simp only [Af, qR, h1]
 cases jmp with
 | normal => exact absurd rfl hj
 | exit id => rfl
 | ret => rfl
theorem sY.func {f : Nat} {lf : Nq} {args : List LV} {low : List Fr} {ctr : Nat} {jmp : Jmp} {s : St} {v : LV} (hf : LP.funcs f = some lf) (hl : args.length = lf.nparams)
  (hc : Ag LP lf.body { env := Dw 0 args, low, ctr } jmp s) (hj : jmp = .normal ∨ jmp = .ret)
  (hr : (match lf.results.mapM fun r => (Db s r).bind (freeze s.low.length s.env 9) with
   | some [x] => some x
   | some xs => some (LV.norm (.tup xs))
   | none => none) = some v) : sY LP f args low ctr v s.low s.ctr := by
 obtain ⟨n, hc⟩ := hc
 have hn : Af LP (Gm LP n) n lf.body { env := Dw 0 args, low, ctr } = some (jmp, s) := hc
 refine ⟨n + 1, ?_⟩
 simp only [Gm, MV, hf]
 rw [if_pos hl, hn]
 have fin : (match lf.results.mapM fun r => (Db s r).bind (freeze s.low.length s.env 9) with
   | some [x] => some (x, s.low, s.ctr)
   | some xs => some (LV.norm (.tup xs), s.low, s.ctr)
   | none => none) = some (v, s.low, s.ctr) := by
  split at hr
  ·simp only [Option.some.injEq] at hr; rw [hr]
  ·rename_i xs hx hne
   simp only [Option.some.injEq] at hr
   rw [← hr]
  ·simp at hr
 rcases hj with rfl | rfl <;> exact fin
theorem dS.pure {g : Nat} {o : AH} {f : Opd} {args : List Opd} {s s' : St} {fi : Nat} {a b : List LV} {ads ds bds : List DV} {v : LV} {d : DV} {low' : List Fr} {c' : Nat}
  (ho : ∀ C, Am LP C g o s = evalOp LP C g o.dst (.call f args none) s) (ht : target (s.val LP f) = some (fi, a, b)) (hds : AZ (args.map (s.val LP)) = some ds) (ha : AZ a = some ads) (hb : AZ b = some bds)
  (hc : sY LP fi ((ads ++ ds ++ bds).map .d) [] 0 v low' c') (hd : v.toD = some d) (hp : s.put o.dst (.d d) = some s') : dS LP g o s s' := by
 obtain ⟨n, hc⟩ := hc
 refine ⟨n, ?_⟩
 rw [ho]
 simp only [evalOp, ht, hds, ha, hb, hc, hd]
 exact hp
end
end Go.Lf
namespace Go.Lf
open Go
theorem yz (a b : Int) : CO (binOp .add 0 (.int .i64 a) (.int .i64 b)) = some (.int (IntKind.i64.wrap (a + b))) := rfl
theorem zK (a b : Int) : CO (binOp .sub 0 (.int .i64 a) (.int .i64 b)) = some (.int (IntKind.i64.wrap (a - b))) := rfl
theorem zB (a b : Int) : CO (binOp .mul 0 (.int .i64 a) (.int .i64 b)) = some (.int (IntKind.i64.wrap (a * b))) := rfl
theorem zR (a b : Int) : CO (binOp .lss 0 (.int .i64 a) (.int .i64 b)) = some (.bool (decide (a < b))) := rfl
theorem zJ (a b : Int) : CO (binOp .leq 0 (.int .i64 a) (.int .i64 b)) = some (.bool (decide (a ≤ b))) := rfl
theorem zA (a b : Int) : CO (binOp .gtr 0 (.int .i64 a) (.int .i64 b)) = some (.bool (decide (b < a))) := rfl
theorem zD (a b : Int) : CO (binOp .geq 0 (.int .i64 a) (.int .i64 b)) = some (.bool (decide (b ≤ a))) := rfl
theorem vP (a b : Int) : CO (binOp .eql 0 (.int .i64 a) (.int .i64 b)) = some (.bool (a == b)) := rfl
theorem wK (a b : Int) : CO (binOp .neq 0 (.int .i64 a) (.int .i64 b)) = some (.bool (!(a == b))) := rfl
theorem zH (b : Bool) : CO (Op.unary .not (.bool b)) = some (.bool (!b)) := rfl
theorem tC (k : Nat) (root : Option (Option Nat)) : Au k root none = true := by cases root <;> rfl
theorem xA (k : Nat) (root : Option (Option Nat)) (v : DV) : Au k root (some (.d v)) = true := by cases root <;> rfl
theorem vn (k : Nat) : Gp (.d (.int k)) = some k := by simp [Gp]
end Go.Lf
