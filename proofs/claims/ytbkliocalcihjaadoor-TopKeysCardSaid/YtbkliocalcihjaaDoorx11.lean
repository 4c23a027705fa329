/- A part of the proof. -/
import Derived.Test.YtbkliocalcihjaaDoorx10
set_option linter.all false
namespace Go.Lf
open Go
section
variable {T : Tables} {g : Gh} {w : World} {tss : List (Array Value)} {s s' : St} {ts : Array Value} {dst : Option Nat} {gi : Nat} {df : List Deferred} {C : AM}
theorem kd {im fm} : ∀ {cs : List DV} {ks : List Int}, DV.ints cs = some ks → ∀ {us : Nat → Value}, (∀ i c, cs[i]? = some c → Cd im fm (us i) c) →
  ks.length = cs.length ∧ ∀ i, i < cs.length → us i = .int .i64 (ks.getD i 0)
 | [], ks, h, us, _ => by simp only [DV.ints, Option.some.injEq] at h; subst h; exact ⟨rfl, fun i hi => by simp at hi⟩
 | c :: r, ks, h, us, hr => by
  cases c <;> simp only [DV.ints, Option.map_eq_some_iff, reduceCtorEq] at h
  rename_i n
  obtain ⟨l, hl, rfl⟩ := h
  obtain ⟨h1, h2⟩ := kd hl (us := fun i => us (i + 1)) fun i c hc => hr (i + 1) c (by simpa using hc)
  refine ⟨by simp [h1], fun i hi => ?_⟩
  cases i with
  | zero =>
   have := hr 0 (.int n) (by simp)
   generalize us 0 = v at this
   cases this; simp
  | succ i => simpa using h2 i (by simpa using hi)
theorem Qu {v : Value} {x : LV} {ks : List Int} (h : Bm g v x) (hk : x.aggKey = some ks) : v = .agg (ks.map (.int .i64)).toArray := by
 unfold LV.aggKey at hk
 split at hk
 ·rename_i cs
  have := h.dinv
  cases this with
  | agg vs _ hn hr =>
   obtain ⟨h1, h2⟩ := kd hk hr
   congr 1
   apply Array.ext
   ·simp [hn, h1]
   ·intro i hi1 hi2
    have := h2 i (by omega)
    simp only [Array.getD, hi1, dif_pos] at this
    simp only [Array.getInternal_eq_getElem] at this
    rw [this]
    simp [List.getD, show i < ks.length by omega]
 ·simp at hk
theorem Bm.key {v : Value} {x : LV} {n : Nat} {ks : List Int} (h : Bm g v x) (hk : x.key n = some ks) : Ww n ks v := by
 unfold LV.key at hk
 split at hk
 ·split at hk
  ·rename_i hn
   simp only [Option.some.injEq] at hk
   subst hk
   have := h.dinv
   cases this
   exact ⟨hn.symm, by rw [if_pos hn]; rfl⟩
  ·simp at hk
 ·rename_i cs
  split at hk
  ·rename_i ks' hks
   split at hk
   ·rename_i hn
    simp only [Option.some.injEq] at hk
    subst hk
    exact ⟨hn.1, by rw [if_neg hn.2]; exact Qu h hks⟩
   ·simp at hk
  ·simp at hk
 ·simp at hk
theorem Ot {P : Program} {t : TypeId} {dd : TypeDesc} (hu : P.underlying t = some dd) (hd : bi dd = true) (ks : List Int) : ax P t ks = .agg (ks.map (Value.int .i64)).toArray := by
 cases dd <;> simp [bi] at hd <;> simp [ax, hu]
theorem fG {P : Program} {d : Nat} {t : TypeId} {n : Nat} (h : O9 P d t = some n) : (n = 1 ∧ P.underlying t = some (.int .i64)) ∨ ∃ dd, P.underlying t = some dd ∧ bi dd = true := by
 cases d with
 | zero => simp [O9] at h
 | succ d =>
  simp only [O9] at h
  split at h
  ·rename_i hu _
   split at h <;> simp at h
   exact .inl ⟨h.symm, hu⟩
  ·rename_i hu _; exact .inr ⟨_, hu, rfl⟩
  ·rename_i hu _; exact .inr ⟨_, hu, rfl⟩
  ·simp at h
theorem PK {P : Program} {t : TypeId} {n : Nat} (h : f9 P t = some n) : O9 P 5 t = some n ∧ ∃ dd, P.underlying t = some dd ∧ ((n = 1 ∧ dd = .int .i64) ∨ (n ≠ 1 ∧ bi dd = true)) := by
 unfold f9 at h
 split at h
 ·rename_i m k hf hu
  simp only [Option.some.injEq] at h
  subst h
  rcases fG hf with ⟨h1, h2⟩ | ⟨dd, h1, h2⟩
  ·exact ⟨hf, _, h2, .inl ⟨h1, rfl⟩⟩
  ·rw [hu] at h1
   simp only [Option.some.injEq] at h1
   subst h1; simp [bi] at h2
 ·rename_i m d hne hf hu
  split at h
  ·simp at h
  ·rename_i h1
   simp only [Option.some.injEq] at h
   subst h
   rcases fG hf with ⟨h2, h3⟩ | ⟨dd, h2, h3⟩
   ·exact absurd h2 h1
   ·exact ⟨hf, _, h2, .inr ⟨h1, h3⟩⟩
 ·simp at h
theorem bM {ks : List Int} {v : Value} {P : Program} {t : TypeId} {n : Nat} (hk : f9 P t = some n) (h : Ww n ks v) : v = ax P t ks := by
 obtain ⟨_, dd, hu, hd⟩ := PK hk
 rcases hd with ⟨h1, rfl⟩ | ⟨h1, ha⟩
 ·rw [h.2, if_pos h1]; simp [ax, hu]
 ·rw [h.2, if_neg h1, Ot hu ha]
theorem Nh {P : Program} {w : World} {t : TypeId} {n : Nat} (hf : O9 P 5 t = some n) {ks ls : List Int} (h1 : ks.length = n) (h2 : ls.length = n) :
 (Op.equal t (ax P t ks) (ax P t ls)).run P w = .ok (decide (ks = ls)) w := kp 5 t n hf 10000 (by omega) ks ls h1 h2 w
theorem Vk {P : Program} {w : World} {op : BinOp} {t : TypeId} {x y : Operand} {a b : Array Value} (h : P.eqGuardType P.depth t = false) :
  (eqGuard op t x y (.agg a) (.agg b)).run P w = .ok () w := by
 unfold eqGuard
 cases op <;> simp [h]
theorem uM {P : Program} {w : World} {t : TypeId} {n : Nat} {dd : TypeDesc} (hf : O9 P 5 t = some n) (hu : P.underlying t = some dd) (ha : bi dd = true) {ks ls : List Int}
  (h1 : ks.length = n) (h2 : ls.length = n) :
  (binOp .eql t (.agg (ks.map (Value.int .i64)).toArray) (.agg (ls.map (Value.int .i64)).toArray)).run P w = .ok (.bool (decide (ks = ls))) w ∧
   (binOp .neq t (.agg (ks.map (Value.int .i64)).toArray) (.agg (ls.map (Value.int .i64)).toArray)).run P w = .ok (.bool (decide (ks ≠ ls))) w := by
 have := Nh (w := w) hf h1 h2
 rw [Ot hu ha, Ot hu ha] at this
 refine ⟨PY this rfl, ?_⟩
 rw [PZ this rfl]
 by_cases h : ks = ls <;> simp [h]
theorem Ql {P : Program} : ∀ (d : Nat) (t : TypeId) (n : Nat), O9 P d t = some n → ∀ e, d ≤ e → P.eqGuardType e t = false
 | 0, t, n, h, _, _ => by simp [O9] at h
 | d + 1, t, n, h, e, he => by
  obtain ⟨e, rfl⟩ : ∃ e', e = e' + 1 := ⟨e - 1, by omega⟩
  simp only [O9] at h
  split at h
  ·rename_i hu _; simp [Program.eqGuardType, hu]
  ·rename_i fs _ hu _
   simp only [Program.eqGuardType, hu]
   split at h
   ·simp at h
   ·split at h
    ·rename_i m hm
     have key : ∀ (fl : List Field) (acc m : Nat), Ef (O9 P d) fl acc = some m → ∀ f, f ∈ fl → P.eqGuardType e f.type = false := by
      intro fl
      induction fl with
      | nil => intro _ _ _ f hf; simp at hf
      | cons f fl ih =>
       intro acc m h f' hf'
       simp only [Ef] at h
       split at h
       ·simp at h
       ·split at h
        ·rename_i m' hm'
         cases hf' with
         | head => exact Ql d _ _ hm' e (by omega)
         | tail _ hf' => exact ih _ _ h f' hf'
        ·simp at h
     rw [Array.any_eq_false']
     intro f hf
     simp [key fs.toList 0 m hm f (by simpa using hf)]
    ·simp at h
  ·rename_i len el _ hu _
   simp only [Program.eqGuardType, hu]
   split at h
   ·rename_i m hm
    exact Ql d _ _ hm e (by omega)
   ·simp at h
  ·simp at h
theorem cO {neg : Bool} {n : Nat} {t u : TypeId} {dd : TypeDesc} {xo yo : Operand} {x y : Opd} {o : Oper} (h : AV T g w tss s ts) (hd : ∀ d, dst = some d → d < ts.size)
  (hx : As xo = some x) (hy : As yo = some y) (hf : O9 T.P 5 t = some n) (hu : T.P.underlying t = some dd) (ha : bi dd = true)
  (ho : o.op = .binOp (if neg then .neq else .eql) t xo yo u)
  (he : evalOp T.LP C gi dst (.eqa neg n x y) s = some s') : Bd T g w tss s s' ts dst gi ((execOp (⟨ts, df⟩ : Act).eval o).run T.P w) := by
 simp only [evalOp] at he
 have hX := h.val (df := df) hx
 have hY := h.val (df := df) hy
 split at he
 ·rename_i a b hka hkb
  split at he
  ·rename_i hl
   have v1 := Qu hX hka
   have v2 := Qu hY hkb
   have hr := uM (w := w) hf hu ha hl.1 hl.2
   rw [← v1, ← v2] at hr
   have hg : ∀ op, (eqGuard op t xo yo ((⟨ts, df⟩ : Act).eval xo) ((⟨ts, df⟩ : Act).eval yo)).run T.P w = .ok () w := by
    intro op
    rw [v1, v2]
    exact Vk (Ql 5 t n hf _ (by unfold Program.depth Made.depth; omega))
   refine A8 h hd (v := .bool (if neg then decide (a ≠ b) else decide (a = b))) ?_ he (.d (.bool _)) rfl
   cases neg
   ·simp only [execOp, ho]
    simp [hg, hr.1]
   ·simp only [execOp, ho]
    simp [hg, hr.2]
  ·simp at he
 ·simp at he
theorem WM : ∀ {xs : List LV} {vs : List Value} {ks : List Int}, N5 xs = some ks → vs.length = xs.length → (∀ (i : Nat) (x : LV) (v : Value), xs[i]? = some x → vs[i]? = some v → Bm g v x) → vs = ks.map (.int .i64)
 | [], vs, ks, h, hl, _ => by
  simp only [N5, Option.some.injEq] at h
  subst h
  have : vs = [] := by cases vs <;> simp_all
  simp [this]
 | x :: r, vs, ks, h, hl, hr => by
  simp only [N5] at h
  split at h
  ·rename_i a l ha hl'
   simp only [Option.some.injEq] at h
   subst h
   match vs, hl with
   | v :: vs, hl =>
    have h1 := (hr 0 x v rfl rfl).int ha
    have h2 := WM (vs := vs) hl' (by simpa using hl) fun i x v hx hv => hr (i + 1) x v (by simpa using hx) (by simpa using hv)
    simp [h1, h2]
  ·simp at h
theorem lL {xs : Array Operand} {ys : List Opd} (h : Ic xs = some ys) : ys.length = xs.size ∧ ∀ (i : Nat) (x : Operand), xs[i]? = some x → ∃ y, ys[i]? = some y ∧ As x = some y := by
 unfold Ic at h
 have key : ∀ (l : List Operand) (ys : List Opd), l.mapM As = some ys → ys.length = l.length ∧ ∀ (i : Nat) (x : Operand), l[i]? = some x → ∃ y, ys[i]? = some y ∧ As x = some y := by
  intro l
  induction l with
  | nil => intro ys h; simp at h; subst h; exact ⟨rfl, fun i x hx => by simp at hx⟩
  | cons a l ih =>
   intro ys h
   simp only [List.mapM_cons] at h
   cases ha : As a with
   | none => simp [ha] at h
   | some b =>
    cases hl : l.mapM As with
    | none => simp [ha, hl] at h
    | some bs =>
     simp [ha, hl] at h
     subst h
     obtain ⟨h1, h2⟩ := ih bs hl
     refine ⟨by simp [h1], fun i x hx => ?_⟩
     cases i with
     | zero => simp only [List.getElem?_cons_zero, Option.some.injEq] at hx; subst hx; exact ⟨b, rfl, ha⟩
     | succ i => simpa using h2 i x (by simpa using hx)
 have := key _ _ h
 exact ⟨by simpa using this.1, fun i x hx => this.2 i x (by simpa using hx)⟩
theorem AV.vals (h : AV T g w tss s ts) {xs : Array Operand} {ys : List Opd} (hx : Ic xs = some ys) :
  (xs.map (⟨ts, df⟩ : Act).eval).size = (ys.map (s.val T.LP)).length ∧
   ∀ (i : Nat) (x : LV), (ys.map (s.val T.LP))[i]? = some x → Bm g ((xs.map (⟨ts, df⟩ : Act).eval).getD i Go.undef) x ∧ x.cold = true := by
 obtain ⟨h1, h2⟩ := lL hx
 refine ⟨by simp [h1], fun i x hi => ?_⟩
 simp only [List.getElem?_map, Option.map_eq_some_iff] at hi
 obtain ⟨y, hy, rfl⟩ := hi
 have hlt : i < xs.size := by rw [← h1]; exact (List.getElem?_eq_some_iff.1 hy).1
 obtain ⟨y', hy', hyo⟩ := h2 i xs[i] (by simp)
 rw [hy] at hy'
 simp only [Option.some.injEq] at hy'
 subst hy'
 refine ⟨?_, HI _ _ _⟩
 simpa [Array.getD, hlt] using h.val (df := df) hyo
theorem fK {P : Program} {w : World} : ∀ (l : List Int) (a : Int), (List.foldlM Builtin.min2 (Value.int .i64 a) (l.map (Value.int .i64))).run P w =
  .ok (.int .i64 (l.foldl (fun a b => if b < a then b else a) a)) w
 | [], a => rfl
 | b :: l, a => by
  simp only [List.map_cons, List.foldlM_cons, Builtin.min2, pure_bind, List.foldl_cons]
  exact fK l _
theorem dc {P : Program} {w : World} : ∀ (l : List Int) (a : Int), (List.foldlM Builtin.max2 (Value.int .i64 a) (l.map (Value.int .i64))).run P w =
  .ok (.int .i64 (l.foldl (fun a b => if a < b then b else a) a)) w
 | [], a => rfl
 | b :: l, a => by
  simp only [List.map_cons, List.foldlM_cons, Builtin.max2, pure_bind, List.foldl_cons, gt_iff_lt]
  exact dc l _
theorem ZO {isMax : Bool} {ys : List Opd} {o : Oper} {c : Call} (h : AV T g w tss s ts) (hd : ∀ d, dst = some d → d < ts.size)
  (hx : Ic c.args = some ys) (ho : o.op = .call c) (hc : c.callee = .builtin (if isMax then .max else .min))
  (he : evalOp T.LP C gi dst (.minmax isMax ys) s = some s') : Bd T g w tss s s' ts dst gi ((execOp (⟨ts, df⟩ : Act).eval o).run T.P w) := by
 simp only [evalOp] at he
 obtain ⟨h1, h2⟩ := h.vals (df := df) hx
 split at he
 ·rename_i n hn
  unfold minmax at hn
  split at hn
  ·rename_i a l hl
   simp only [Option.some.injEq] at hn
   have hvs := WM (g := g) (vs := (c.args.map (⟨ts, df⟩ : Act).eval).toList) hl (by simpa using h1) fun i x v hi hv => by
    have := (h2 i x hi).1
    rw [Array.getD_eq_getD_getElem?] at this
    simp only [Array.getElem?_toList] at hv
    rw [hv] at this
    exact this
   have hvs' : c.args.map (⟨ts, df⟩ : Act).eval = ((a :: l).map (Value.int .i64)).toArray := by
    rw [← hvs]
   refine A8 h hd (v := .int .i64 n) ?_ he (.d (.int _)) rfl
   cases isMax
   ·simp only [Bool.false_eq_true, if_false] at hc hn
    simp only [execOp, ho, resolve, hc, invoke, builtin, pure_bind, Builtin.min_, hvs', List.map_cons, Sem.run_bind, fK, Result.andThen_ok, Sem.run_pure]
    rw [hn]
   ·simp only [if_true] at hc hn
    simp only [execOp, ho, resolve, hc, invoke, builtin, pure_bind, Builtin.max_, hvs', List.map_cons, Sem.run_bind, dc, Result.andThen_ok, Sem.run_pure]
    rw [hn]
  ·simp at hn
 ·simp at he
theorem qq {f : Nat} {first cap : Array Operand} {a b : List Opd} {o : Oper} (h : AV T g w tss s ts) (hd : ∀ d, dst = some d → d < ts.size)
  (ha : Ic first = some a) (hb : Ic cap = some b) (ho : o.op = .makeFunc (.func f) first cap)
  (he : evalOp T.LP C gi dst (.mkfn f a b) s = some s') : Bd T g w tss s s' ts dst gi ((execOp (⟨ts, df⟩ : Act).eval o).run T.P w) := by
 simp only [evalOp] at he
 obtain ⟨a1, a2⟩ := h.vals (df := df) ha
 obtain ⟨b1, b2⟩ := h.vals (df := df) hb
 refine A8 h hd ?_ he (Bm.norm (.fn f _ _ _ _ a1 b1 (fun c hc => ?_) (fun c hc => ?_) (fun i c hc => (a2 i c hc).1) (fun i c hc => (b2 i c hc).1))) (C3 rfl)
 ·simp [execOp, ho, Instr.makeFunc]
 ·obtain ⟨i, hi, hic⟩ := List.getElem_of_mem hc
  exact (a2 i c (by rw [List.getElem?_eq_getElem hi, hic])).2
 ·obtain ⟨i, hi, hic⟩ := List.getElem_of_mem hc
  exact (b2 i c (by rw [List.getElem?_eq_getElem hi, hic])).2
end
end Go.Lf
