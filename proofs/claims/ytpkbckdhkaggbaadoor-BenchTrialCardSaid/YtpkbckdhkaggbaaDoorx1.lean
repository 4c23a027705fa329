/- A part of the proof. -/
import Derived.Test.YtpkbckdhkaggbaaDoorx0
set_option linter.all false
namespace Go.Lf
open Go
section
variable {LP : A2}
def Y0 (LP : A2) (g : Nat) (o : AG) (s s' : St) : Prop := ∃ n, Ah LP (Fj LP n) g o s = some s'
def HV (LP : A2) (g : Nat) (ops : List AG) (s s' : St) : Prop := ∃ n, evalOps LP (Fj LP n) g ops s = some s'
theorem HV.nil {g : Nat} {s : St} : HV LP g [] s s := ⟨0, rfl⟩
theorem HV.cons {g : Nat} {o : AG} {r : List AG} {s s1 s' : St} (h : Y0 LP g o s s1) (h' : HV LP (g + 1) r s1 s') : HV LP g (o :: r) s s' := by
 obtain ⟨n, h⟩ := h
 obtain ⟨m, h'⟩ := h'
 refine ⟨max n m, ?_⟩
 simp only [evalOps]
 rw [VX LP (Eb LP (Nat.le_max_left n m)) h]
 exact Qi LP (Eb LP (Nat.le_max_right n m)) h'
theorem NH (C : AP) : ∀ (a b : List AG) (g : Nat) (s : St), evalOps LP C g (a ++ b) s = (evalOps LP C g a s).bind (evalOps LP C (g + a.length) b)
 | [], b, g, s => rfl
 | o :: a, b, g, s => by
  simp only [List.cons_append, evalOps, List.length_cons]
  cases Ah LP C g o s with
  | none => rfl
  | some s1 =>
   simp only
   rw [NH C a b (g + 1) s1, show g + 1 + a.length = g + (a.length + 1) by omega]
theorem HV.plain {g : Nat} {a b ops : List AG} {s s1 s' : St} (ho : ops = a ++ b) (h : ∀ C, evalOps LP C g a s = some s1) (h' : HV LP (g + a.length) b s1 s') : HV LP g ops s s' := by
 obtain ⟨m, h'⟩ := h'
 subst ho
 refine ⟨m, ?_⟩
 rw [NH, h]
 exact h'
theorem HV.done {g : Nat} {ops : List AG} {s s' : St} (h : ∀ C, evalOps LP C g ops s = some s') : HV LP g ops s s' := ⟨0, h _⟩
theorem Ab.ops {ops : List AG} {keep : List Nat} {s s1 : St} (h : HV LP s.ctr ops { s with ctr := s.ctr + ops.length } s1) : Ab LP (.ops ops keep) s .normal { s1 with env := s1.env.keep keep } := by
 obtain ⟨n, h⟩ := h
 exact ⟨n, by simp only [AX, h]⟩
theorem Ab.plain {c : CN} {s s' : St} {jmp : vI} (h : ∀ C, AX LP C 0 c s = some (jmp, s')) : Ab LP c s jmp s' := ⟨0, h _⟩
theorem Ab.skip {s : St} : Ab LP .skip s .normal s := ⟨0, rfl⟩
theorem Ab.exit {s : St} {id : Nat} : Ab LP (.exit id) s (.exit id) s := ⟨0, rfl⟩
theorem Ab.ret {s : St} : Ab LP .ret s .ret s := ⟨0, rfl⟩
theorem Ab.seq {a b : CN} {s s1 s' : St} {jmp : vI} (h : Ab LP a s .normal s1) (h' : Ab LP b s1 jmp s') : Ab LP (.seq a b) s jmp s' := by
 obtain ⟨n, h⟩ := h
 obtain ⟨m, h'⟩ := h'
 refine ⟨max n m, ?_⟩
 simp only [AX]
 rw [C9 LP (Eb LP (Nat.le_max_left n m)) (Nat.le_max_left n m) h]
 exact C9 LP (Eb LP (Nat.le_max_right n m)) (Nat.le_max_right n m) h'
theorem Ab.seq_jump {a b : CN} {s s' : St} {jmp : vI} (h : Ab LP a s jmp s') (hj : jmp ≠ .normal) : Ab LP (.seq a b) s jmp s' := by
 obtain ⟨n, h⟩ := h
 refine ⟨n, ?_⟩
 simp only [AX, h]
 cases jmp with
 | normal => exact absurd rfl hj
 | exit id => rfl
 | ret => rfl
theorem Ab.cond {x : vD} {a b : CN} {s s' : St} {jmp : vI} {c : Bool} (hc : E0 (s.val LP x) = some c) (h : Ab LP (if c then a else b) s jmp s') : Ab LP (.cond x a b) s jmp s' := by
 obtain ⟨n, h⟩ := h
 refine ⟨n, ?_⟩
 simp only [AX, hc]
 cases c <;> exact h
theorem Ab.condT {x : vD} {a b : CN} {s s' : St} {jmp : vI} {c : Bool} (hc : E0 (s.val LP x) = some c) (ht : c = true) (h : Ab LP a s jmp s') : Ab LP (.cond x a b) s jmp s' := by
 subst ht; exact Ab.cond hc h
theorem Ab.condF {x : vD} {a b : CN} {s s' : St} {jmp : vI} {c : Bool} (hc : E0 (s.val LP x) = some c) (ht : c = false) (h : Ab LP b s jmp s') : Ab LP (.cond x a b) s jmp s' := by
 subst ht; exact Ab.cond hc h
theorem Ab.block {id : Nat} {c : CN} {s s' : St} (h : Ab LP c s .normal s') : Ab LP (.block id c) s .normal s' := by
 obtain ⟨n, h⟩ := h
 exact ⟨n, by simp only [AX, h]⟩
theorem Ab.block_exit {id : Nat} {c : CN} {s s' : St} (h : Ab LP c s (.exit id) s') : Ab LP (.block id c) s .normal s' := by
 obtain ⟨n, h⟩ := h
 exact ⟨n, by simp only [AX, h, if_true]⟩
theorem Ab.block_pass {id i : Nat} {c : CN} {s s' : St} (h : Ab LP c s (.exit i) s') (hi : i ≠ id) : Ab LP (.block id c) s (.exit i) s' := by
 obtain ⟨n, h⟩ := h
 exact ⟨n, by simp only [AX, h, if_neg hi]⟩
theorem Ab.block_ret {id : Nat} {c : CN} {s s' : St} (h : Ab LP c s .ret s') : Ab LP (.block id c) s .ret s' := by
 obtain ⟨n, h⟩ := h
 exact ⟨n, by simp only [AX, h]⟩
theorem Ab.scope {c : CN} {s s' : St} {jmp : vI} (h : Ab LP c s jmp s') : Ab LP (.scope c) s jmp s' := by
 obtain ⟨n, h⟩ := h
 exact ⟨n, by simp only [AX, h]⟩
theorem Ab.loop {c : CN} {s s1 s' : St} {jmp : vI} (h : Ab LP c s .normal s1) (h' : Ab LP (.loop c) s1 jmp s') : Ab LP (.loop c) s jmp s' := by
 obtain ⟨n, h⟩ := h
 obtain ⟨m, h'⟩ := h'
 refine ⟨max n m + 1, ?_⟩
 have h1 := C9 LP (Eb LP (n := n) (m := max n m + 1) (by omega)) (n := n) (m := max n m + 1) (by omega) h
 simp only [AX] at h' ⊢
 simp only [ly, h1]
 exact eT (fun s r hr => C9 LP (Eb LP (n := m) (m := max n m + 1) (by omega)) (n := m) (m := max n m + 1) (by omega) hr) (by omega) h'
theorem Ab.loop_jump {c : CN} {s s' : St} {jmp : vI} (h : Ab LP c s jmp s') (hj : jmp ≠ .normal) : Ab LP (.loop c) s jmp s' := by
 obtain ⟨n, h⟩ := h
 refine ⟨n + 1, ?_⟩
 have h1 := C9 LP (Eb LP (n := n) (m := n + 1) (by omega)) (n := n) (m := n + 1) (by omega) h
 simp only [AX, ly, h1]
 cases jmp with
 | normal => exact absurd rfl hj
 | exit id => rfl
 | ret => rfl
theorem nw.func {f : Nat} {lf : K7} {args : List LV} {low : List Fr} {ctr : Nat} {jmp : vI} {s : St} {v : LV} (hf : LP.funcs f = some lf) (hl : args.length = lf.nparams)
  (hc : Ab LP lf.body { env := DG 0 args, low, ctr } jmp s) (hj : jmp = .normal ∨ jmp = .ret)
  (hr : (match lf.results.mapM fun r => (Ci s r).bind (freeze s.low.length s.env 9) with
   | some [x] => some x
   | some xs => some (LV.norm (.tup xs))
   | none => none) = some v) : nw LP f args low ctr v s.low s.ctr := by
 obtain ⟨n, hc⟩ := hc
 have hn : AX LP (Fj LP n) n lf.body { env := DG 0 args, low, ctr } = some (jmp, s) := hc
 refine ⟨n + 1, ?_⟩
 simp only [Fj, KR, hf]
 rw [if_pos hl, hn]
 have vN : (match lf.results.mapM fun r => (Ci s r).bind (freeze s.low.length s.env 9) with
   | some [x] => some (x, s.low, s.ctr)
   | some xs => some (LV.norm (.tup xs), s.low, s.ctr)
   | none => none) = some (v, s.low, s.ctr) := by
  split at hr
  ·simp only [Option.some.injEq] at hr; rw [hr]
  ·rename_i xs hx hne
   simp only [Option.some.injEq] at hr
   rw [← hr]
  ·simp at hr
 rcases hj with rfl | rfl <;> exact vN
theorem Y0.pure {g : Nat} {o : AG} {f : vD} {args : List vD} {s s' : St} {fi : Nat} {a b : List LV} {ads ds bds : List DV} {v : LV} {d : DV} {low' : List Fr} {c' : Nat}
  (ho : ∀ C, Ah LP C g o s = evalOp LP C g o.dst (.call f args none) s) (ht : target (s.val LP f) = some (fi, a, b)) (hds : AU (args.map (s.val LP)) = some ds) (ha : AU a = some ads) (hb : AU b = some bds)
  (hc : nw LP fi ((ads ++ ds ++ bds).map .d) [] 0 v low' c') (hd : v.toD = some d) (hp : s.put o.dst (.d d) = some s') : Y0 LP g o s s' := by
 obtain ⟨n, hc⟩ := hc
 refine ⟨n, ?_⟩
 rw [ho]
 simp only [evalOp, ht, hds, ha, hb, hc, hd]
 exact hp
end
end Go.Lf
namespace Go.Lf
open Go
theorem tA (a b : Int) : Bm (binOp .add 0 (.int .i64 a) (.int .i64 b)) = some (.int (IntKind.i64.wrap (a + b))) := rfl
theorem tN (a b : Int) : Bm (binOp .sub 0 (.int .i64 a) (.int .i64 b)) = some (.int (IntKind.i64.wrap (a - b))) := rfl
theorem tI (a b : Int) : Bm (binOp .mul 0 (.int .i64 a) (.int .i64 b)) = some (.int (IntKind.i64.wrap (a * b))) := rfl
theorem tQ (a b : Int) : Bm (binOp .lss 0 (.int .i64 a) (.int .i64 b)) = some (.bool (decide (a < b))) := rfl
theorem s9 (a b : Int) : Bm (binOp .leq 0 (.int .i64 a) (.int .i64 b)) = some (.bool (decide (a ≤ b))) := rfl
theorem tP (a b : Int) : Bm (binOp .gtr 0 (.int .i64 a) (.int .i64 b)) = some (.bool (decide (b < a))) := rfl
theorem tH (a b : Int) : Bm (binOp .geq 0 (.int .i64 a) (.int .i64 b)) = some (.bool (decide (b ≤ a))) := rfl
theorem qh (a b : Int) : Bm (binOp .eql 0 (.int .i64 a) (.int .i64 b)) = some (.bool (a == b)) := rfl
theorem rT (a b : Int) : Bm (binOp .neq 0 (.int .i64 a) (.int .i64 b)) = some (.bool (!(a == b))) := rfl
theorem tL (b : Bool) : Bm (Op.unary .not (.bool b)) = some (.bool (!b)) := rfl
theorem oQ (k : Nat) (root : Option (Option Nat)) : Ak k root none = true := by cases root <;> rfl
theorem sL (k : Nat) (root : Option (Option Nat)) (v : DV) : Ak k root (some (.d v)) = true := by cases root <;> rfl
theorem ri (k : Nat) : E8 (.d (.int k)) = some k := by simp [E8]
end Go.Lf
