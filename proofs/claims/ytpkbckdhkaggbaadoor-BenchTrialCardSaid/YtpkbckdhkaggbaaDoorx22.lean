/- A part of the proof. -/
import Derived.Test.YtpkbckdhkaggbaaDoorx21
set_option linter.all false
namespace Go.Lf
open Go
section
variable {T : Tables} {tss : List (Array Value)} {C : AP} {b : Frame} {cs : List Frame} {base : Nat}
theorem M9.mono {g g1 : Gh} {w w1 : World} {c c1 size : Nat} {s' : St} {k k1 : List Item} {jmp : vI} {m' : Machine} (h : M9 T g1 w1 tss c1 s' size b base cs k1 jmp m')
  (hk : N5 g w g1 w1) (hg : ∀ n, n < c → g1.gb n = g.gb n) (hc : c ≤ c1) (ha : ∀ ts df w, Qu b cs k1 ts df w m' jmp → Qu b cs k ts df w m' jmp) : M9 T g w tss c s' size b base cs k jmp m' := by
 obtain ⟨g', w', ts', df', h1, h2, h3, h4, h5, h6, h7⟩ := h
 exact ⟨g', w', ts', df', hk.trans h1, h2, h3, h4, fun n hn => by rw [h5 n (Nat.lt_of_lt_of_le hn hc), hg n hn], Nat.le_trans hc h6, ha _ _ _ h7⟩
theorem Qu.pass {k : List Item} {it : Item} {ts : Array Value} {df : List Deferred} {w : World} {m' : Machine} {jmp : vI} (hj : jmp ≠ .normal) (hi : ∀ id, jmp = .exit id → exitTo id (it :: k) = exitTo id k)
  (h : Qu b cs (it :: k) ts df w m' jmp) : Qu b cs k ts df w m' jmp := by
 cases jmp with
 | normal => exact absurd rfl hj
 | exit id =>
  obtain ⟨k', h1, h2⟩ := h
  exact ⟨k', h1, h2.trans (hi id rfl)⟩
 | ret => exact h
theorem ej {P : Program} {a : Act} {k : List Item} {w : World} {c : Code} : step P (lone (b.atR a (.code (.scope c) :: k)) cs w) = .next (lone (b.atR a (.code c :: .inScope c :: k)) cs w) :=
 step_lone_go (by simp [stepG, stepG.exec, Frame.atR])
theorem Zw {P : Program} {a : Act} {k : List Item} {w : World} {c : Code} : step P (lone (b.atR a (.inScope c :: k)) cs w) = .next (lone (b.atR a k) cs w) :=
 step_lone_go (by simp [stepG, stepG.exec, Frame.atR])
theorem Yv {P : Program} {l : List Vf} {n id : Nat} {ops : Array Oper} {draw : Bool} (h : FW P l n (.region id ops draw) = true) :
  (∀ (i : Nat) (o : Oper), ops[i]? = some o → ∀ d, o.dst = some d → d < n) ∧ (draw = true → af (PX P (Vf.find l id) ops) ops = true) := by
 simp only [FW, Bool.and_eq_true, Bool.or_eq_true, Bool.not_eq_true'] at h
 refine ⟨fun i o ho d hd => ?_, fun hd => ?_⟩
 ·have := h.1
  rw [List.all_eq_true] at this
  have := this o (by have := (Array.getElem?_eq_some_iff.1 ho).2; rw [← this]; simp)
  rw [hd] at this
  simpa using this
 ·rcases h.2 with h | h
  ·rw [hd] at h; simp at h
  ·exact h
theorem ZY (hC : MB T C) (hR : KX T C) (hmix : T.P.follows .mixedOrders = true) (hk : b.kind = .normal) {f : Func} (hf : T.P.funcs[b.fn]? = some f) {n : Nat} :
  ∀ (c : Code), FW T.P (T.ann b.fn) f.ntmps c = true → ∀ {g : Gh} {w : World} {s s' : St} {ts : Array Value} {df : List Deferred} {k : List Item} {jmp : vI}, ts.size = f.ntmps → AS T g w tss s ts → iy g w b df base →
   AX T.LP C n (Ce T.P (T.ann b.fn) c) s = some (jmp, s') →
   DL T.P (lone (b.atR ⟨ts, df⟩ (.code c :: k)) cs w) (M9 T g w tss s.ctr s' f.ntmps b base cs k jmp) := by
 intro c
 induction c with
 | skip =>
  intro _ g w s s' ts df k jmp hsz h hdf he
  simp only [Ce, AX, Option.some.injEq, Prod.mk.injEq] at he
  obtain ⟨rfl, rfl⟩ := he
  exact DL.step stepR_skip (DL.here ⟨g, w, ts, df, .refl g w, h, hsz, hdf, fun _ _ => rfl, Nat.le_refl _, rfl⟩)
 | label l =>
  intro _ g w s s' ts df k jmp hsz h hdf he
  simp only [Ce, AX, Option.some.injEq, Prod.mk.injEq] at he
  obtain ⟨rfl, rfl⟩ := he
  exact DL.step stepR_label (DL.here ⟨g, w, ts, df, .refl g w, h, hsz, hdf, fun _ _ => rfl, Nat.le_refl _, rfl⟩)
 | region id ops draw =>
  intro hok g w s s' ts df k jmp hsz h hdf he
  obtain ⟨h1, h2⟩ := Yv hok
  simp only [Ce] at he
  obtain ⟨rfl, hgo⟩ := jU (k := k) (cs := cs) (df := df) (id := id) hC hR hmix (by rw [hk]; simp) (fun i o ho d hd => by rw [hsz]; exact h1 i o ho d hd) h2 h he
  refine hgo.mono fun m' hm' => ?_
  obtain ⟨g', w', ts', rfl, e1, e2, e3, e4, e5⟩ := hm'
  exact ⟨g', w', ts', df, e2, e3, e1.trans hsz, hdf.keep e2, e4, e5, rfl⟩
 | seq a c iha ihc =>
  intro hok g w s s' ts df k jmp hsz h hdf he
  simp only [FW, Bool.and_eq_true] at hok
  simp only [Ce, AX] at he
  refine DL.step stepR_seq ?_
  split at he
  ·rename_i s1 h1
   refine (iha hok.1 (k := .code c :: k) hsz h hdf h1).bind fun m' hm' => ?_
   obtain ⟨g1, w1, ts1, df1, e1, e2, e3, e4, e5, e6, rfl⟩ := hm'
   exact (ihc hok.2 e3 e2 e4 he).mono fun m' hm' => hm'.mono e1 e5 e6 fun _ _ _ h => h
  ·rename_i hne
   refine (iha hok.1 (k := .code c :: k) hsz h hdf he).mono fun m' hm' => ?_
   refine hm'.mono (.refl g w) (fun _ _ => rfl) (Nat.le_refl _) fun _ _ _ h => h.pass (fun e => ?_) fun _ _ => rfl
   subst e; exact hne _ he
 | cond c a d iha ihd =>
  intro hok g w s s' ts df k jmp hsz h hdf he
  simp only [FW, Bool.and_eq_true] at hok
  simp only [Ce] at he
  split at he
  ·rename_i c' hc
   have hX := h.val (df := df) hc
   simp only [AX] at he
   split at he
   ·rename_i hb
    exact DL.step (stepR_cond (hX.bool hb)) (iha hok.1 hsz h hdf he)
   ·rename_i hb
    exact DL.step (stepR_cond (hX.bool hb)) (ihd hok.2 hsz h hdf he)
   ·simp at he
  ·simp [AX, St.val, E0] at he
 | block id c ih =>
  intro hok g w s s' ts df k jmp hsz h hdf he
  simp only [FW] at hok
  simp only [Ce, AX] at he
  refine DL.step stepR_block ?_
  split at he
  ·rename_i i s1 h1
   refine (ih hok (k := .inBlock id :: k) hsz h hdf h1).bind fun m' hm' => ?_
   obtain ⟨g1, w1, ts1, df1, e1, e2, e3, e4, e5, e6, k', rfl, e7⟩ := hm'
   split at he
   ·rename_i hid
    subst hid
    simp only [Option.some.injEq, Prod.mk.injEq] at he
    obtain ⟨rfl, rfl⟩ := he
    have hx : exitTo i k' = some k := by rw [e7]; simp [exitTo]
    exact DL.step (stepR_exit hx) (DL.here ⟨g1, w1, ts1, df1, e1, e2, e3, e4, e5, e6, rfl⟩)
   ·rename_i hid
    simp only [Option.some.injEq, Prod.mk.injEq] at he
    obtain ⟨rfl, rfl⟩ := he
    refine DL.here ⟨g1, w1, ts1, df1, e1, e2, e3, e4, e5, e6, k', rfl, ?_⟩
    rw [e7]
    have : (id == i) = false := by simpa using fun e : id = i => hid e.symm
    simp [exitTo, this]
  ·rename_i hne
   refine (ih hok (k := .inBlock id :: k) hsz h hdf he).bind fun m' hm' => ?_
   obtain ⟨g1, w1, ts1, df1, e1, e2, e3, e4, e5, e6, e7⟩ := hm'
   cases jmp with
   | normal =>
    have e7' : m' = lone (b.atR ⟨ts1, df1⟩ (.inBlock id :: k)) cs w1 := e7
    subst e7'
    exact DL.step stepR_inBlock (DL.here ⟨g1, w1, ts1, df1, e1, e2, e3, e4, e5, e6, rfl⟩)
   | exit i => exact absurd he (hne _ _)
   | ret => exact DL.here ⟨g1, w1, ts1, df1, e1, e2, e3, e4, e5, e6, e7⟩
 | loop c ih =>
  intro hok g w s s' ts df k jmp hsz h hdf he
  simp only [FW] at hok
  simp only [Ce, AX] at he
  have key : ∀ (m : Nat) {g : Gh} {w : World} {s s' : St} {ts : Array Value} {df : List Deferred} {jmp : vI}, ts.size = f.ntmps → AS T g w tss s ts → iy g w b df base →
    ly (AX T.LP C n (Ce T.P (T.ann b.fn) c)) m s = some (jmp, s') →
    DL T.P (lone (b.atR ⟨ts, df⟩ (.code c :: .inLoop c :: k)) cs w) (M9 T g w tss s.ctr s' f.ntmps b base cs k jmp) := by
   intro m
   induction m with
   | zero => intro g w s s' ts df jmp _ _ _ he; simp [ly] at he
   | succ m ihm =>
    intro g w s s' ts df jmp hsz h hdf he
    simp only [ly] at he
    split at he
    ·rename_i s1 h1
     refine (ih hok (k := .inLoop c :: k) hsz h hdf h1).bind fun m' hm' => ?_
     obtain ⟨g1, w1, ts1, df1, e1, e2, e3, e4, e5, e6, rfl⟩ := hm'
     exact DL.step stepR_inLoop ((ihm e3 e2 e4 he).mono fun m' hm' => hm'.mono e1 e5 e6 fun _ _ _ h => h)
    ·rename_i hne
     refine (ih hok (k := .inLoop c :: k) hsz h hdf he).mono fun m' hm' => ?_
     refine hm'.mono (.refl g w) (fun _ _ => rfl) (Nat.le_refl _) fun _ _ _ h => h.pass (fun e => ?_) fun _ _ => rfl
     subst e; exact hne _ he
  exact DL.step stepR_loop (key n hsz h hdf he)
 | scope c ih =>
  intro hok g w s s' ts df k jmp hsz h hdf he
  simp only [FW] at hok
  simp only [Ce, AX] at he
  refine DL.step ej ((ih hok (k := .inScope c :: k) hsz h hdf he).bind fun m' hm' => ?_)
  obtain ⟨g1, w1, ts1, df1, e1, e2, e3, e4, e5, e6, e7⟩ := hm'
  cases jmp with
  | normal =>
   have e7' : m' = lone (b.atR ⟨ts1, df1⟩ (.inScope c :: k)) cs w1 := e7
   subst e7'
   exact DL.step Zw (DL.here ⟨g1, w1, ts1, df1, e1, e2, e3, e4, e5, e6, rfl⟩)
  | exit i => exact DL.here ⟨g1, w1, ts1, df1, e1, e2, e3, e4, e5, e6, e7.pass (by simp) fun _ _ => rfl⟩
  | ret => exact DL.here ⟨g1, w1, ts1, df1, e1, e2, e3, e4, e5, e6, e7⟩
 | rangeFunc fo ps a d iha ihd =>
  intro hok g w s s' ts df k jmp hsz h hdf he
  simp only [FW, Bool.and_eq_true] at hok
  simp only [Ce] at he
  split at he
  ·rename_i fx hfo
   rw [← hsz]
   refine pf (n := n) hC hf hsz.symm hfo (fun t ht => ?_) hok.1.2 hok.2 h hdf he
   have := hok.1.1
   rw [List.all_eq_true] at this
   simpa using this t ht
  ·simp [AX, St.val, E0] at he
 | exit id =>
  intro _ g w s s' ts df k jmp hsz h hdf he
  simp only [Ce, AX, Option.some.injEq, Prod.mk.injEq] at he
  obtain ⟨rfl, rfl⟩ := he
  exact DL.here ⟨g, w, ts, df, .refl g w, h, hsz, hdf, fun _ _ => rfl, Nat.le_refl _, k, rfl, rfl⟩
 | ret =>
  intro _ g w s s' ts df k jmp hsz h hdf he
  simp only [Ce, AX, Option.some.injEq, Prod.mk.injEq] at he
  obtain ⟨rfl, rfl⟩ := he
  exact DL.here ⟨g, w, ts, df, .refl g w, h, hsz, hdf, fun _ _ => rfl, Nat.le_refl _, k, rfl⟩
 | goto l =>
  intro _ g w s s' ts df k jmp _ _ _ he
  simp [Ce, AX, St.val, E0] at he
 | refuse y =>
  intro _ g w s s' ts df k jmp _ _ _ he
  simp [Ce, AX, St.val, E0] at he
end
end Go.Lf
namespace Go.Lf
open Go
section
variable {T : Tables} {g : Gh} {w : World} {tss : List (Array Value)} {s : St} {ts : Array Value}
def nR (g : Gh) (env : uI) (c : Nat) : Prop := ∃ t gen cs, env.get t = some (.box gen cs) ∧ g.gb gen = some c
def me (g : Gh) (env : uI) (c : Nat) : Prop := ∃ t gen n es, env.get t = some (.mapo gen n es) ∧ g.gb gen = some c
open Classical in
noncomputable def Gh.freeze (g : Gh) (w : World) (env : uI) : Gh :=
 { g with
  im := fun c i => match g.im c i with
   | some u => some u
   | none => if nR g env c then w.cell? ⟨c, i, none⟩ else none
  fm := fun c => match g.fm c with
   | some e => some e
   | none => if me g env c then (match w.heap[c]? with
    | some (.map es _) => some es
    | _ => none) else none }
theorem Jl (g : Gh) (w : World) (env : uI) : g.Le (g.freeze w env) :=
 ⟨fun b i u h => by simp only [Gh.freeze, h], fun b e h => by simp only [Gh.freeze, h], fun _ _ h => h, fun _ _ h => h⟩
theorem cz (h : AS T g w tss s ts) {c : Nat} (hb : nR g s.env c) : ∃ t gen cs vs e, s.env.get t = some (.box gen cs) ∧ g.gb gen = some c ∧ g.ow c = some (.slot s.low.length t 0) ∧
  w.heap[c]? = some (.cells vs e (0, 0)) ∧ (∀ i, g.im c i = none) ∧ vs.size = cs.length ∧ (∀ x, x ∈ cs → x.cellOk = true) ∧ ts.getD t Go.undef = .pointer (some ⟨c, 0, none⟩) ∧
  ∀ i x, cs[i]? = some x → Bj g (vs.getD i Go.undef) x := by
 obtain ⟨t, gen, cs, ht, hg⟩ := hb
 have hs := h.env t _ ht
 generalize hv : ts.getD t Go.undef = v at hs
 cases hs with
 | box hgb ho hh hi hn hk hr =>
  rw [hg] at hgb
  simp only [Option.some.injEq] at hgb
  subst hgb
  exact ⟨t, gen, cs, _, _, ht, hg, ho, hh, hi, hn, hk, hv, fun i x hx => (hr i x hx).1⟩
theorem kL (h : AS T g w tss s ts) {c : Nat} (hb : me g s.env c) : ∃ t gen n es es', s.env.get t = some (.mapo gen n es) ∧ g.gb gen = some c ∧ g.ow c = some (.slot s.low.length t 0) ∧
  w.heap[c]? = some (.map es' es'.size) ∧ g.fm c = none ∧ es'.size = es.length ∧ (∀ i p, es[i]? = some p → Vg n p.1 (es'.getD i default).key) ∧
  ∀ i p, es[i]? = some p → Bj g (es'.getD i default).val p.2 := by
 obtain ⟨t, gen, n, es, ht, hg⟩ := hb
 have hs := h.env t _ ht
 generalize hv : ts.getD t Go.undef = v at hs
 cases hs with
 | mapo hgb ho hh hf hn hb hk hr =>
  rw [hg] at hgb
  simp only [Option.some.injEq] at hgb
  subst hgb
  exact ⟨t, gen, n, es, _, ht, hg, ho, hh, hf, hn, hk, fun i p hp => (hr i p hp).1⟩
theorem U6 (h : AS T g w tss s ts) {c : Nat} (hc : ∀ t i, g.ow c ≠ some (.slot s.low.length t i)) : NG g w (g.freeze w s.env) w c := by
 have h1 : ¬ nR g s.env c := fun hb => by
  obtain ⟨t, _, _, _, _, _, _, ho, _⟩ := cz h hb
  exact hc t 0 ho
 have h2 : ¬ me g s.env c := fun hb => by
  obtain ⟨t, _, _, _, _, _, _, ho, _⟩ := kL h hb
  exact hc t 0 ho
 refine ⟨rfl, fun i => ?_, ?_, rfl⟩
 ·simp only [Gh.freeze, if_neg h1]
  cases g.im c i <;> rfl
 ·simp only [Gh.freeze, if_neg h2]
  cases g.fm c <;> rfl
theorem eE (h : AS T g w tss s ts) : IU T (g.freeze w s.env) w s.ctr where
 im b i u hu := by
  simp only [Gh.freeze] at hu
  split at hu
  ·rename_i u' hu'
   simp only [Option.some.injEq] at hu; subst hu
   exact h.winv.im b i _ hu'
  ·split at hu
   ·exact hu
   ·simp at hu
 one b i u hu := by
  simp only [Gh.freeze] at hu
  split at hu
  ·rename_i u' hu'
   simp only [Option.some.injEq] at hu; subst hu
   exact h.winv.one b i _ hu'
  ·split at hu
   ·rename_i hb
    obtain ⟨t, gen, cs, vs, e, _, _, _, hh, _, hn, hk, _, hr⟩ := cz h hb
    have hi : i < vs.size := by
     rcases Nat.lt_or_ge i vs.size with h' | h'
     ·exact h'
     ·simp [World.cell?, hh, Array.getElem?_eq_none h'] at hu
    rw [Da hh hi] at hu
    simp only [Option.some.injEq] at hu
    subst hu
    have hx : cs[i]? = some (cs[i]'(by omega)) := List.getElem?_eq_getElem (by omega)
    exact Ql (hr i _ hx) (hk _ (List.mem_of_getElem? hx))
   ·simp at hu
 fm b es hf := by
  simp only [Gh.freeze] at hf
  split at hf
  ·rename_i e he
   simp only [Option.some.injEq] at hf; subst hf
   exact h.winv.fm b _ he
  ·split at hf
   ·split at hf
    ·rename_i es' c hh
     simp only [Option.some.injEq] at hf; subst hf
     exact ⟨c, hh⟩
    ·simp at hf
   ·simp at hf
 ow := h.winv.ow
 gb := h.winv.gb
 lp := h.winv.lp
 ctr := h.winv.ctr
 globs n := (h.winv.globs n).mono (Jl g w s.env).im (Jl g w s.env).fm
theorem cb {α β : Type} {f : α → Option β} {l : List α} {r : List β} (h : l.mapM f = some r) : ∀ (i : Nat) (a : α), l[i]? = some a → ∃ b, r[i]? = some b ∧ f a = some b := by
 intro i a ha
 obtain ⟨h1, h2⟩ := J6 h
 have hi : i < r.length := by rw [h1]; exact (List.getElem?_eq_some_iff.1 ha).1
 obtain ⟨a', e1, e2⟩ := h2 i r[i] (List.getElem?_eq_getElem hi)
 rw [ha] at e1
 simp only [Option.some.injEq] at e1
 subst e1
 exact ⟨_, List.getElem?_eq_getElem hi, e2⟩
theorem MS (h : AS T g w tss s ts) : ∀ (d : Nat) {v : Value} {x y : LV}, freeze s.low.length s.env d x = some y → Bj g v x → Bj (g.freeze w s.env) v y ∧ y.cold = true
 | 0, v, x, y, hf, hr => by
  simp only [freeze] at hf
  split at hf
  ·simp only [Option.some.injEq] at hf; subst hf
   exact ⟨hr.mono (Jl g w s.env), rfl⟩
  ·simp at hf
 | d + 1, v, x, y, hf, hr => by
  have hle := Jl g w s.env
  have many : ∀ {cs cs' : List LV} {us : Nat → Value}, cs.mapM (freeze s.low.length s.env d) = some cs' → (∀ i c, cs[i]? = some c → Bj g (us i) c) →
    cs'.length = cs.length ∧ (∀ i c, cs'[i]? = some c → Bj (g.freeze w s.env) (us i) c) ∧ ∀ c, c ∈ cs' → c.cold = true := by
   intro cs cs' us hm hu
   obtain ⟨m1, m2⟩ := J6 hm
   refine ⟨m1, fun i c hc => ?_, fun c hc => ?_⟩
   ·obtain ⟨a, ha, hfa⟩ := m2 i c hc
    exact (MS h d hfa (hu i a ha)).1
   ·obtain ⟨i, hi, hic⟩ := List.getElem_of_mem hc
    obtain ⟨a, ha, hfa⟩ := m2 i c (by rw [List.getElem?_eq_getElem hi, hic])
    exact (MS h d hfa (hu i a ha)).2
  cases x with
  | d z => simp only [freeze, Option.some.injEq] at hf; subst hf; exact ⟨hr.mono hle, rfl⟩
  | hot z xs => simp only [freeze, Option.some.injEq] at hf; subst hf; exact ⟨(hr.mono hle).cool, rfl⟩
  | full z xs =>
   simp only [freeze, Option.some.injEq] at hf; subst hf
   exact ⟨.d ((hr.mono hle).toD rfl), rfl⟩
  | ptr j t gen off =>
   simp only [freeze] at hf
   split at hf
   ·split at hf
    ·rename_i gen' cs ht
     split at hf
     ·rename_i hgen
      subst hgen
      simp only [Option.map_eq_some_iff] at hf
      obtain ⟨cs', hm, rfl⟩ := hf
      obtain ⟨b, rfl, hgb⟩ := hr.ptr'
      have hb : nR g s.env b := ⟨t, gen', cs, ht, hgb⟩
      have hs := h.env t _ ht
      generalize hv : ts.getD t Go.undef = u at hs
      cases hs with
      | @box b' _ _ vs e hgb' ho hh hi hn hk hrr =>
       rw [hgb] at hgb'
       simp only [Option.some.injEq] at hgb'
       subst hgb'
       obtain ⟨m1, m2, m3⟩ := many hm (us := fun i => vs.getD i Go.undef) fun i c hc => (hrr i c hc).1
       have := Bj.fptr (g := g.freeze w s.env) b 0 off cs' (fun i => vs.getD i Go.undef) (fun c hc => Dm (m3 c hc)) (fun i hi' => by
        simp only [Gh.freeze, Nat.zero_add, hi i, if_pos hb]
        exact Da hh (by omega)) m2
       rw [Nat.zero_add] at this
       exact ⟨this.norm, C2 rfl⟩
     ·simp at hf
    ·simp at hf
   ·simp only [Option.some.injEq] at hf; subst hf; exact ⟨hr.mono hle, rfl⟩
  | mref j t gen =>
   simp only [freeze] at hf
   split at hf
   ·split at hf
    ·rename_i gen' n es ht
     split at hf
     ·rename_i hgen
      subst hgen
      simp only [Option.map_eq_some_iff] at hf
      obtain ⟨es2, hm, rfl⟩ := hf
      obtain ⟨b, rfl, hgb⟩ := hr.mref'
      have hb : me g s.env b := ⟨t, gen', n, es, ht, hgb⟩
      have hs := h.env t _ ht
      generalize hv : ts.getD t Go.undef = u at hs
      cases hs with
      | @mapo b' _ _ _ es' hgb' ho hh hfm hn hbo hk hrr =>
       rw [hgb] at hgb'
       simp only [Option.some.injEq] at hgb'
       subst hgb'
       obtain ⟨m1, m2⟩ := J6 hm
       refine ⟨.d (.fmap b n es' es2 (by simp only [Gh.freeze, hfm, if_pos hb, hh]) (by rw [hn, m1]) (fun i p hp => ?_) fun i p hp => ?_), rfl⟩
       ·obtain ⟨a, ha, hfa⟩ := m2 i p hp
        simp only [Option.map_eq_some_iff] at hfa
        obtain ⟨z, _, rfl⟩ := hfa
        exact hk i a ha
       ·obtain ⟨a, ha, hfa⟩ := m2 i p hp
        simp only [Option.map_eq_some_iff, Option.bind_eq_some_iff] at hfa
        obtain ⟨z, ⟨y, hy, hz⟩, rfl⟩ := hfa
        exact (MS h d hy (hrr i a ha).1).1.toD hz
     ·simp at hf
    ·simp at hf
   ·simp only [Option.some.injEq] at hf; subst hf; exact ⟨hr.mono hle, rfl⟩
  | agg cs =>
   simp only [freeze, Option.map_eq_some_iff] at hf
   obtain ⟨cs', hm, rfl⟩ := hf
   cases hr with
   | agg vs _ hn hh hrr =>
    obtain ⟨m1, m2, m3⟩ := many hm (us := fun i => vs.getD i Go.undef) hrr
    exact ⟨Bj.norm (.agg vs cs' (by rw [hn, m1]) (fun c hc => Dm (m3 c hc)) m2), C2 rfl⟩
  | tup cs =>
   simp only [freeze, Option.map_eq_some_iff] at hf
   obtain ⟨cs', hm, rfl⟩ := hf
   cases hr with
   | tup vs _ hn hrr =>
    obtain ⟨m1, m2, m3⟩ := many hm (us := fun i => vs.getD i Go.undef) hrr
    refine ⟨Bj.norm (.tup vs cs' (by rw [hn, m1]) m2), C2 ?_⟩
    simp only [LV.cold, List.all_eq_true]
    intro c hc
    rw [Dm (m3 c hc)]; rfl
  | fptr cs off =>
   simp only [freeze, Option.map_eq_some_iff] at hf
   obtain ⟨cs', hm, rfl⟩ := hf
   cases hr with
   | fptr b o _ _ us hh hi hrr =>
    obtain ⟨m1, m2, m3⟩ := many hm (us := us) hrr
    exact ⟨Bj.norm (.fptr b o off cs' us (fun c hc => Dm (m3 c hc)) (fun i hi' => hle.im _ _ _ (hi i (by omega))) m2), C2 rfl⟩
  | fn f a b =>
   simp only [freeze] at hf
   split at hf
   ·rename_i a' b' ha hb
    simp only [Option.some.injEq] at hf
    subst hf
    cases hr with
    | fn _ va vb _ _ hna hnb hha hhb hra hrb =>
     obtain ⟨m1, m2, m3⟩ := many ha (us := fun i => va.getD i Go.undef) hra
     obtain ⟨n1, n2, n3⟩ := many hb (us := fun i => vb.getD i Go.undef) hrb
     exact ⟨Bj.norm (.fn f va vb a' b' (by rw [hna, m1]) (by rw [hnb, n1]) m3 n3 m2 n2), C2 rfl⟩
   ·simp at hf
  | yield j gen =>
   simp only [freeze] at hf
   split at hf
   ·simp at hf
   ·simp only [Option.some.injEq] at hf; subst hf; exact ⟨hr.mono hle, rfl⟩
end
end Go.Lf
