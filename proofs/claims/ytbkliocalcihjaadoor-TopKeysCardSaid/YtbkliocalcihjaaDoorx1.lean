/- A part of the proof. -/
import Derived.Test.YtbkliocalcihjaaDoorx0
set_option linter.all false
namespace Go.Lf
open Go
section
variable {LP : Aw}
def cX (LP : Aw) (g : Nat) (o : AD) (s s' : St) : Prop := ∃ n, Ag LP (C5 LP n) g o s = some s'
def IH (LP : Aw) (g : Nat) (ops : List AD) (s s' : St) : Prop := ∃ n, evalOps LP (C5 LP n) g ops s = some s'
theorem IH.nil {g : Nat} {s : St} : IH LP g [] s s := ⟨0, rfl⟩
theorem IH.cons {g : Nat} {o : AD} {r : List AD} {s s1 s' : St} (h : cX LP g o s s1) (h' : IH LP (g + 1) r s1 s') : IH LP g (o :: r) s s' := by
 obtain ⟨n, h⟩ := h
 obtain ⟨m, h'⟩ := h'
 refine ⟨max n m, ?_⟩
 simp only [evalOps]
 rw [UA LP (Ew LP (Nat.le_max_left n m)) h]
 exact Qm LP (Ew LP (Nat.le_max_right n m)) h'
theorem Nk (C : AM) : ∀ (a b : List AD) (g : Nat) (s : St), evalOps LP C g (a ++ b) s = (evalOps LP C g a s).bind (evalOps LP C (g + a.length) b)
 | [], b, g, s => rfl
 | o :: a, b, g, s => by
  simp only [List.cons_append, evalOps, List.length_cons]
  cases Ag LP C g o s with
  | none => rfl
  | some s1 =>
   simp only
   rw [Nk C a b (g + 1) s1, show g + 1 + a.length = g + (a.length + 1) by omega]
theorem IH.plain {g : Nat} {a b ops : List AD} {s s1 s' : St} (ho : ops = a ++ b) (h : ∀ C, evalOps LP C g a s = some s1) (h' : IH LP (g + a.length) b s1 s') : IH LP g ops s s' := by
 obtain ⟨m, h'⟩ := h'
 subst ho
 refine ⟨m, ?_⟩
 rw [Nk, h]
 exact h'
theorem IH.done {g : Nat} {ops : List AD} {s s' : St} (h : ∀ C, evalOps LP C g ops s = some s') : IH LP g ops s s' := ⟨0, h _⟩
theorem Ah.ops {ops : List AD} {keep : List Nat} {s s1 : St} (h : IH LP s.ctr ops { s with ctr := s.ctr + ops.length } s1) : Ah LP (.ops ops keep) s .normal { s1 with env := s1.env.keep keep } := by
 obtain ⟨n, h⟩ := h
 exact ⟨n, by simp only [AP, h]⟩
theorem Ah.plain {c : B6} {s s' : St} {jmp : zk} (h : ∀ C, AP LP C 0 c s = some (jmp, s')) : Ah LP c s jmp s' := ⟨0, h _⟩
theorem Ah.skip {s : St} : Ah LP .skip s .normal s := ⟨0, rfl⟩
theorem Ah.exit {s : St} {id : Nat} : Ah LP (.exit id) s (.exit id) s := ⟨0, rfl⟩
theorem Ah.ret {s : St} : Ah LP .ret s .ret s := ⟨0, rfl⟩
theorem Ah.seq {a b : B6} {s s1 s' : St} {jmp : zk} (h : Ah LP a s .normal s1) (h' : Ah LP b s1 jmp s') : Ah LP (.seq a b) s jmp s' := by
 obtain ⟨n, h⟩ := h
 obtain ⟨m, h'⟩ := h'
 refine ⟨max n m, ?_⟩
 simp only [AP]
 rw [DJ LP (Ew LP (Nat.le_max_left n m)) (Nat.le_max_left n m) h]
 exact DJ LP (Ew LP (Nat.le_max_right n m)) (Nat.le_max_right n m) h'
theorem Ah.seq_jump {a b : B6} {s s' : St} {jmp : zk} (h : Ah LP a s jmp s') (hj : jmp ≠ .normal) : Ah LP (.seq a b) s jmp s' := by
 obtain ⟨n, h⟩ := h
 refine ⟨n, ?_⟩
 simp only [AP, h]
 cases jmp with
 | normal => exact absurd rfl hj
 | exit id => rfl
 | ret => rfl
theorem Ah.cond {x : Opd} {a b : B6} {s s' : St} {jmp : zk} {c : Bool} (hc : EW (s.val LP x) = some c) (h : Ah LP (if c then a else b) s jmp s') : Ah LP (.cond x a b) s jmp s' := by
 obtain ⟨n, h⟩ := h
 refine ⟨n, ?_⟩
 simp only [AP, hc]
 cases c <;> exact h
theorem Ah.condT {x : Opd} {a b : B6} {s s' : St} {jmp : zk} {c : Bool} (hc : EW (s.val LP x) = some c) (ht : c = true) (h : Ah LP a s jmp s') : Ah LP (.cond x a b) s jmp s' := by
 subst ht; exact Ah.cond hc h
theorem Ah.condF {x : Opd} {a b : B6} {s s' : St} {jmp : zk} {c : Bool} (hc : EW (s.val LP x) = some c) (ht : c = false) (h : Ah LP b s jmp s') : Ah LP (.cond x a b) s jmp s' := by
 subst ht; exact Ah.cond hc h
theorem Ah.block {id : Nat} {c : B6} {s s' : St} (h : Ah LP c s .normal s') : Ah LP (.block id c) s .normal s' := by
 obtain ⟨n, h⟩ := h
 exact ⟨n, by simp only [AP, h]⟩
theorem Ah.block_exit {id : Nat} {c : B6} {s s' : St} (h : Ah LP c s (.exit id) s') : Ah LP (.block id c) s .normal s' := by
 obtain ⟨n, h⟩ := h
 exact ⟨n, by simp only [AP, h, if_true]⟩
theorem Ah.block_pass {id i : Nat} {c : B6} {s s' : St} (h : Ah LP c s (.exit i) s') (hi : i ≠ id) : Ah LP (.block id c) s (.exit i) s' := by
 obtain ⟨n, h⟩ := h
 exact ⟨n, by simp only [AP, h, if_neg hi]⟩
theorem Ah.block_ret {id : Nat} {c : B6} {s s' : St} (h : Ah LP c s .ret s') : Ah LP (.block id c) s .ret s' := by
 obtain ⟨n, h⟩ := h
 exact ⟨n, by simp only [AP, h]⟩
theorem Ah.scope {c : B6} {s s' : St} {jmp : zk} (h : Ah LP c s jmp s') : Ah LP (.scope c) s jmp s' := by
 obtain ⟨n, h⟩ := h
 exact ⟨n, by simp only [AP, h]⟩
theorem Ah.loop {c : B6} {s s1 s' : St} {jmp : zk} (h : Ah LP c s .normal s1) (h' : Ah LP (.loop c) s1 jmp s') : Ah LP (.loop c) s jmp s' := by
 obtain ⟨n, h⟩ := h
 obtain ⟨m, h'⟩ := h'
 refine ⟨max n m + 1, ?_⟩
 have h1 := DJ LP (Ew LP (n := n) (m := max n m + 1) (by omega)) (n := n) (m := max n m + 1) (by omega) h
 simp only [AP] at h' ⊢
 simp only [mQ, h1]
 exact iM (fun s r hr => DJ LP (Ew LP (n := m) (m := max n m + 1) (by omega)) (n := m) (m := max n m + 1) (by omega) hr) (by omega) h'
theorem Ah.loop_jump {c : B6} {s s' : St} {jmp : zk} (h : Ah LP c s jmp s') (hj : jmp ≠ .normal) : Ah LP (.loop c) s jmp s' := by
 obtain ⟨n, h⟩ := h
 refine ⟨n + 1, ?_⟩
 have h1 := DJ LP (Ew LP (n := n) (m := n + 1) (by omega)) (n := n) (m := n + 1) (by omega) h
 simp only [AP, mQ, h1]
 cases jmp with
 | normal => exact absurd rfl hj
 | exit id => rfl
 | ret => rfl
theorem rB.func {f : Nat} {lf : EQ} {args : List LV} {low : List Fr} {ctr : Nat} {jmp : zk} {s : St} {v : LV} (hf : LP.funcs f = some lf) (hl : args.length = lf.nparams)
  (hc : Ah LP lf.body { env := Cm 0 args, low, ctr } jmp s) (hj : jmp = .normal ∨ jmp = .ret)
  (hr : (match lf.results.mapM fun r => (CC s r).bind (freeze s.low.length s.env 9) with
   | some [x] => some x
   | some xs => some (LV.norm (.tup xs))
   | none => none) = some v) : rB LP f args low ctr v s.low s.ctr := by
 obtain ⟨n, hc⟩ := hc
 have hn : AP LP (C5 LP n) n lf.body { env := Cm 0 args, low, ctr } = some (jmp, s) := hc
 refine ⟨n + 1, ?_⟩
 simp only [C5, FM, hf]
 rw [if_pos hl, hn]
 have fin : (match lf.results.mapM fun r => (CC s r).bind (freeze s.low.length s.env 9) with
   | some [x] => some (x, s.low, s.ctr)
   | some xs => some (LV.norm (.tup xs), s.low, s.ctr)
   | none => none) = some (v, s.low, s.ctr) := by
  split at hr
  ·simp only [Option.some.injEq] at hr; rw [hr]
  ·rename_i xs hx hne
   simp only [Option.some.injEq] at hr
   rw [← hr]
  ·simp at hr
 rcases hj with rfl | rfl <;> exact fin
theorem cX.pure {g : Nat} {o : AD} {f : Opd} {args : List Opd} {s s' : St} {fi : Nat} {a b : List LV} {ads ds bds : List DV} {v : LV} {d : DV} {low' : List Fr} {c' : Nat}
  (ho : ∀ C, Ag LP C g o s = evalOp LP C g o.dst (.call f args none) s) (ht : target (s.val LP f) = some (fi, a, b)) (hds : AW (args.map (s.val LP)) = some ds) (ha : AW a = some ads) (hb : AW b = some bds)
  (hc : rB LP fi ((ads ++ ds ++ bds).map .d) [] 0 v low' c') (hd : v.toD = some d) (hp : s.put o.dst (.d d) = some s') : cX LP g o s s' := by
 obtain ⟨n, hc⟩ := hc
 refine ⟨n, ?_⟩
 rw [ho]
 simp only [evalOp, ht, hds, ha, hb, hc, hd]
 exact hp
end
end Go.Lf
namespace Go.Lf
open Go
theorem yp (a b : Int) : BZ (binOp .add 0 (.int .i64 a) (.int .i64 b)) = some (.int (IntKind.i64.wrap (a + b))) := rfl
theorem yq (a b : Int) : BZ (binOp .sub 0 (.int .i64 a) (.int .i64 b)) = some (.int (IntKind.i64.wrap (a - b))) := rfl
theorem yt (a b : Int) : BZ (binOp .mul 0 (.int .i64 a) (.int .i64 b)) = some (.int (IntKind.i64.wrap (a * b))) := rfl
theorem yx (a b : Int) : BZ (binOp .lss 0 (.int .i64 a) (.int .i64 b)) = some (.bool (decide (a < b))) := rfl
theorem zF (a b : Int) : BZ (binOp .leq 0 (.int .i64 a) (.int .i64 b)) = some (.bool (decide (a ≤ b))) := rfl
theorem yl (a b : Int) : BZ (binOp .gtr 0 (.int .i64 a) (.int .i64 b)) = some (.bool (decide (b < a))) := rfl
theorem ym (a b : Int) : BZ (binOp .geq 0 (.int .i64 a) (.int .i64 b)) = some (.bool (decide (b ≤ a))) := rfl
theorem vT (a b : Int) : BZ (binOp .eql 0 (.int .i64 a) (.int .i64 b)) = some (.bool (a == b)) := rfl
theorem ve (a b : Int) : BZ (binOp .neq 0 (.int .i64 a) (.int .i64 b)) = some (.bool (!(a == b))) := rfl
theorem yu (b : Bool) : BZ (Op.unary .not (.bool b)) = some (.bool (!b)) := rfl
theorem sD (k : Nat) (root : Option (Option Nat)) : An k root none = true := by cases root <;> rfl
theorem xP (k : Nat) (root : Option (Option Nat)) (v : DV) : An k root (some (.d v)) = true := by cases root <;> rfl
theorem wE (k : Nat) : E1 (.d (.int k)) = some k := by simp [E1]
end Go.Lf
