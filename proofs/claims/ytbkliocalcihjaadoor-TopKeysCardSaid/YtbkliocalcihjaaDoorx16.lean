/- A part of the proof. -/
import Derived.Test.YtbkliocalcihjaaDoorx15
import Derived.RangeFuncRecord
set_option linter.all false
namespace Go.Lf
open Go
section
variable {T : Tables} {tss : List (Array Value)} {C : AM} {b : Frame} {cs : List Frame} {base : Nat}
theorem M6.mono {g g1 : Gh} {w w1 : World} {c c1 size : Nat} {s' : St} {k k1 : List Item} {jmp : zk} {m' : Machine} (h : M6 T g1 w1 tss c1 s' size b base cs k1 jmp m')
  (hk : N7 g w g1 w1) (hg : ∀ n, n < c → g1.gb n = g.gb n) (hc : c ≤ c1) (ha : ∀ ts df w, Q5 b cs k1 ts df w m' jmp → Q5 b cs k ts df w m' jmp) : M6 T g w tss c s' size b base cs k jmp m' := by
 obtain ⟨g', w', ts', df', h1, h2, h3, h4, h5, h6, h7⟩ := h
 exact ⟨g', w', ts', df', hk.trans h1, h2, h3, h4, fun n hn => by rw [h5 n (Nat.lt_of_lt_of_le hn hc), hg n hn], Nat.le_trans hc h6, ha _ _ _ h7⟩
theorem Q5.pass {k : List Item} {it : Item} {ts : Array Value} {df : List Deferred} {w : World} {m' : Machine} {jmp : zk} (hj : jmp ≠ .normal) (hi : ∀ id, jmp = .exit id → exitTo id (it :: k) = exitTo id k)
  (h : Q5 b cs (it :: k) ts df w m' jmp) : Q5 b cs k ts df w m' jmp := by
 cases jmp with
 | normal => exact absurd rfl hj
 | exit id =>
  obtain ⟨k', h1, h2⟩ := h
  exact ⟨k', h1, h2.trans (hi id rfl)⟩
 | ret => exact h
theorem hT {P : Program} {a : Act} {k : List Item} {w : World} {c : Code} : step P (lone (b.atR a (.code (.scope c) :: k)) cs w) = .next (lone (b.atR a (.code c :: .inScope c :: k)) cs w) :=
 step_lone_go (by simp [stepG, stepG.exec, Frame.atR])
theorem Zo {P : Program} {a : Act} {k : List Item} {w : World} {c : Code} : step P (lone (b.atR a (.inScope c :: k)) cs w) = .next (lone (b.atR a k) cs w) :=
 step_lone_go (by simp [stepG, stepG.exec, Frame.atR])
theorem bW {P : Program} {l : List Rn} {n id : Nat} {ops : Array Oper} {draw : Bool} (h : GF P l n (.region id ops draw) = true) :
  (∀ (i : Nat) (o : Oper), ops[i]? = some o → ∀ d, o.dst = some d → d < n) ∧ (draw = true → Yo (MI P (Rn.find l id) ops) ops = true ∨ Qh (MI P (Rn.find l id) ops) = true) := by
 simp only [GF, Bool.and_eq_true, Bool.or_eq_true, Bool.not_eq_true'] at h
 refine ⟨fun i o ho d hd => ?_, fun hd => ?_⟩
 ·have := h.1
  rw [List.all_eq_true] at this
  have := this o (by have := (Array.getElem?_eq_some_iff.1 ho).2; rw [← this]; simp)
  rw [hd] at this
  simpa using this
 ·rcases h.2 with (h | h) | h
  ·rw [hd] at h; simp at h
  ·exact .inl h
  ·exact .inr h
theorem aJ (hC : Lr T C) (hR : KO T C) (hmix : T.P.follows .mixedOrders = true) (hk : b.kind = .normal) {f : Func} (hf : T.P.funcs[b.fn]? = some f) {n : Nat} :
  ∀ (c : Code), GF T.P (T.ann b.fn) f.ntmps c = true → ∀ {g : Gh} {w : World} {s s' : St} {ts : Array Value} {df : List Deferred} {k : List Item} {jmp : zk}, ts.size = f.ntmps → AV T g w tss s ts → lU g w b df base →
   AP T.LP C n (Cc T.P (T.ann b.fn) c) s = some (jmp, s') →
   DL T.P (lone (b.atR ⟨ts, df⟩ (.code c :: k)) cs w) (M6 T g w tss s.ctr s' f.ntmps b base cs k jmp) := by
 intro c
 induction c with
 | skip =>
  intro _ g w s s' ts df k jmp hsz h hdf he
  simp only [Cc, AP, Option.some.injEq, Prod.mk.injEq] at he
  obtain ⟨rfl, rfl⟩ := he
  exact DL.step stepR_skip (DL.here ⟨g, w, ts, df, .refl g w, h, hsz, hdf, fun _ _ => rfl, Nat.le_refl _, rfl⟩)
 | label l =>
  intro _ g w s s' ts df k jmp hsz h hdf he
  simp only [Cc, AP, Option.some.injEq, Prod.mk.injEq] at he
  obtain ⟨rfl, rfl⟩ := he
  exact DL.step stepR_label (DL.here ⟨g, w, ts, df, .refl g w, h, hsz, hdf, fun _ _ => rfl, Nat.le_refl _, rfl⟩)
 | region id ops draw =>
  intro hok g w s s' ts df k jmp hsz h hdf he
  obtain ⟨h1, h2⟩ := bW hok
  simp only [Cc] at he
  have h2 : draw = true → Yo (MI T.P (Rn.find (T.ann b.fn) id) ops) ops = true := fun hd => (h2 hd).resolve_right fun hb => by
   simp only [AP, eW hb] at he
   simp at he
  obtain ⟨rfl, hgo⟩ := lm (k := k) (cs := cs) (df := df) (id := id) hC hR hmix (by rw [hk]; simp) (fun i o ho d hd => by rw [hsz]; exact h1 i o ho d hd) h2 h he
  refine hgo.mono fun m' hm' => ?_
  obtain ⟨g', w', ts', rfl, e1, e2, e3, e4, e5⟩ := hm'
  exact ⟨g', w', ts', df, e2, e3, e1.trans hsz, hdf.keep e2, e4, e5, rfl⟩
 | seq a c iha ihc =>
  intro hok g w s s' ts df k jmp hsz h hdf he
  simp only [GF, Bool.and_eq_true] at hok
  simp only [Cc, AP] at he
  refine DL.step stepR_seq ?_
  split at he
  ·rename_i s1 h1
   refine (iha hok.1 (k := .code c :: k) hsz h hdf h1).bind fun m' hm' => ?_
   obtain ⟨g1, w1, ts1, df1, e1, e2, e3, e4, e5, e6, rfl⟩ := hm'
   exact (ihc hok.2 e3 e2 e4 he).mono fun m' hm' => hm'.mono e1 e5 e6 fun _ _ _ h => h
  ·rename_i hne
   refine (iha hok.1 (k := .code c :: k) hsz h hdf he).mono fun m' hm' => ?_
   refine hm'.mono (.refl g w) (fun _ _ => rfl) (Nat.le_refl _) fun _ _ _ h => h.pass (fun e => ?_) fun _ _ => rfl
   subst e; exact hne _ he
 | cond c a d iha ihd =>
  intro hok g w s s' ts df k jmp hsz h hdf he
  simp only [GF, Bool.and_eq_true] at hok
  simp only [Cc] at he
  split at he
  ·rename_i c' hc
   have hX := h.val (df := df) hc
   simp only [AP] at he
   split at he
   ·rename_i hb
    exact DL.step (stepR_cond (hX.bool hb)) (iha hok.1 hsz h hdf he)
   ·rename_i hb
    exact DL.step (stepR_cond (hX.bool hb)) (ihd hok.2 hsz h hdf he)
   ·simp at he
  ·simp [AP, St.val, EW] at he
 | block id c ih =>
  intro hok g w s s' ts df k jmp hsz h hdf he
  simp only [GF] at hok
  simp only [Cc, AP] at he
  refine DL.step stepR_block ?_
  split at he
  ·rename_i i s1 h1
   refine (ih hok (k := .inBlock id :: k) hsz h hdf h1).bind fun m' hm' => ?_
   obtain ⟨g1, w1, ts1, df1, e1, e2, e3, e4, e5, e6, k', rfl, e7⟩ := hm'
   split at he
   ·rename_i hid
    subst hid
    simp only [Option.some.injEq, Prod.mk.injEq] at he
    obtain ⟨rfl, rfl⟩ := he
    have hx : exitTo i k' = some k := by rw [e7]; simp [exitTo]
    exact DL.step (stepR_exit hx) (DL.here ⟨g1, w1, ts1, df1, e1, e2, e3, e4, e5, e6, rfl⟩)
   ·rename_i hid
    simp only [Option.some.injEq, Prod.mk.injEq] at he
    obtain ⟨rfl, rfl⟩ := he
    refine DL.here ⟨g1, w1, ts1, df1, e1, e2, e3, e4, e5, e6, k', rfl, ?_⟩
    rw [e7]
    have : (id == i) = false := by simpa using fun e : id = i => hid e.symm
    simp [exitTo, this]
  ·rename_i hne
   refine (ih hok (k := .inBlock id :: k) hsz h hdf he).bind fun m' hm' => ?_
   obtain ⟨g1, w1, ts1, df1, e1, e2, e3, e4, e5, e6, e7⟩ := hm'
   cases jmp with
   | normal =>
    have e7' : m' = lone (b.atR ⟨ts1, df1⟩ (.inBlock id :: k)) cs w1 := e7
    subst e7'
    exact DL.step stepR_inBlock (DL.here ⟨g1, w1, ts1, df1, e1, e2, e3, e4, e5, e6, rfl⟩)
   | exit i => exact absurd he (hne _ _)
   | ret => exact DL.here ⟨g1, w1, ts1, df1, e1, e2, e3, e4, e5, e6, e7⟩
 | loop c ih =>
  intro hok g w s s' ts df k jmp hsz h hdf he
  simp only [GF] at hok
  simp only [Cc, AP] at he
  have key : ∀ (m : Nat) {g : Gh} {w : World} {s s' : St} {ts : Array Value} {df : List Deferred} {jmp : zk}, ts.size = f.ntmps → AV T g w tss s ts → lU g w b df base →
    mQ (AP T.LP C n (Cc T.P (T.ann b.fn) c)) m s = some (jmp, s') →
    DL T.P (lone (b.atR ⟨ts, df⟩ (.code c :: .inLoop c :: k)) cs w) (M6 T g w tss s.ctr s' f.ntmps b base cs k jmp) := by
   intro m
   induction m with
   | zero => intro g w s s' ts df jmp _ _ _ he; simp [mQ] at he
   | succ m ihm =>
    intro g w s s' ts df jmp hsz h hdf he
    simp only [mQ] at he
    split at he
    ·rename_i s1 h1
     refine (ih hok (k := .inLoop c :: k) hsz h hdf h1).bind fun m' hm' => ?_
     obtain ⟨g1, w1, ts1, df1, e1, e2, e3, e4, e5, e6, rfl⟩ := hm'
     exact DL.step stepR_inLoop ((ihm e3 e2 e4 he).mono fun m' hm' => hm'.mono e1 e5 e6 fun _ _ _ h => h)
    ·rename_i hne
     refine (ih hok (k := .inLoop c :: k) hsz h hdf he).mono fun m' hm' => ?_
     refine hm'.mono (.refl g w) (fun _ _ => rfl) (Nat.le_refl _) fun _ _ _ h => h.pass (fun e => ?_) fun _ _ => rfl
     subst e; exact hne _ he
  exact DL.step stepR_loop (key n hsz h hdf he)
 | scope c ih =>
  intro hok g w s s' ts df k jmp hsz h hdf he
  simp only [GF] at hok
  simp only [Cc, AP] at he
  refine DL.step hT ((ih hok (k := .inScope c :: k) hsz h hdf he).bind fun m' hm' => ?_)
  obtain ⟨g1, w1, ts1, df1, e1, e2, e3, e4, e5, e6, e7⟩ := hm'
  cases jmp with
  | normal =>
   have e7' : m' = lone (b.atR ⟨ts1, df1⟩ (.inScope c :: k)) cs w1 := e7
   subst e7'
   exact DL.step Zo (DL.here ⟨g1, w1, ts1, df1, e1, e2, e3, e4, e5, e6, rfl⟩)
  | exit i => exact DL.here ⟨g1, w1, ts1, df1, e1, e2, e3, e4, e5, e6, e7.pass (by simp) fun _ _ => rfl⟩
  | ret => exact DL.here ⟨g1, w1, ts1, df1, e1, e2, e3, e4, e5, e6, e7⟩
 | rangeFunc fo ps a d iha ihd =>
  intro hok g w s s' ts df k jmp hsz h hdf he
  simp only [GF, Bool.and_eq_true] at hok
  simp only [Cc] at he
  split at he
  ·rename_i fx hfo
   rw [← hsz]
   refine uN (n := n) hC hf hsz.symm hfo (fun t ht => ?_) hok.1.2 hok.2 h hdf he
   have := hok.1.1
   rw [List.all_eq_true] at this
   simpa using this t ht
  ·simp [AP, St.val, EW] at he
 | exit id =>
  intro _ g w s s' ts df k jmp hsz h hdf he
  simp only [Cc, AP, Option.some.injEq, Prod.mk.injEq] at he
  obtain ⟨rfl, rfl⟩ := he
  exact DL.here ⟨g, w, ts, df, .refl g w, h, hsz, hdf, fun _ _ => rfl, Nat.le_refl _, k, rfl, rfl⟩
 | ret =>
  intro _ g w s s' ts df k jmp hsz h hdf he
  simp only [Cc, AP, Option.some.injEq, Prod.mk.injEq] at he
  obtain ⟨rfl, rfl⟩ := he
  exact DL.here ⟨g, w, ts, df, .refl g w, h, hsz, hdf, fun _ _ => rfl, Nat.le_refl _, k, rfl⟩
 | goto l =>
  intro _ g w s s' ts df k jmp _ _ _ he
  simp [Cc, AP, St.val, EW] at he
 | refuse y =>
  intro _ g w s s' ts df k jmp _ _ _ he
  simp [Cc, AP, St.val, EW] at he
end
end Go.Lf
namespace Go.Lf
open Go
section
variable {T : Tables} {g : Gh} {w : World} {tss : List (Array Value)} {s : St} {ts : Array Value}
def ri (g : Gh) (env : Env) (c : Nat) : Prop := ∃ t gen cs, env.get t = some (.box gen cs) ∧ g.gb gen = some c
def qE (g : Gh) (env : Env) (c : Nat) : Prop := ∃ t gen n es, env.get t = some (.mapo gen n es) ∧ g.gb gen = some c
open Classical in
noncomputable def Gh.freeze (g : Gh) (w : World) (env : Env) : Gh :=
 { g with
  im := fun c i => match g.im c i with
   | some u => some u
   | none => if ri g env c then w.cell? ⟨c, i, none⟩ else none
  fm := fun c => match g.fm c with
   | some e => some e
   | none => if qE g env c then (match w.heap[c]? with
    | some (.map es _) => some es
    | _ => none) else none }
theorem J5 (g : Gh) (w : World) (env : Env) : g.Le (g.freeze w env) :=
 ⟨fun b i u h => by simp only [Gh.freeze, h], fun b e h => by simp only [Gh.freeze, h], fun _ _ h => h, fun _ _ h => h⟩
theorem dz (h : AV T g w tss s ts) {c : Nat} (hb : ri g s.env c) : ∃ t gen cs vs e, s.env.get t = some (.box gen cs) ∧ g.gb gen = some c ∧ g.ow c = some (.slot s.low.length t 0) ∧
  w.heap[c]? = some (.cells vs e (0, 0)) ∧ (∀ i, g.im c i = none) ∧ vs.size = cs.length ∧ (∀ x, x ∈ cs → x.cellOk = true) ∧ ts.getD t Go.undef = .pointer (some ⟨c, 0, none⟩) ∧
  ∀ i x, cs[i]? = some x → Bm g (vs.getD i Go.undef) x := by
 obtain ⟨t, gen, cs, ht, hg⟩ := hb
 have hs := h.env t _ ht
 generalize hv : ts.getD t Go.undef = v at hs
 cases hs with
 | box hgb ho hh hi hn hk hr =>
  rw [hg] at hgb
  simp only [Option.some.injEq] at hgb
  subst hgb
  exact ⟨t, gen, cs, _, _, ht, hg, ho, hh, hi, hn, hk, hv, fun i x hx => (hr i x hx).1⟩
theorem mq (h : AV T g w tss s ts) {c : Nat} (hb : qE g s.env c) : ∃ t gen n es es', s.env.get t = some (.mapo gen n es) ∧ g.gb gen = some c ∧ g.ow c = some (.slot s.low.length t 0) ∧
  w.heap[c]? = some (.map es' es'.size) ∧ g.fm c = none ∧ es'.size = es.length ∧ (∀ i p, es[i]? = some p → Ww n p.1 (es'.getD i default).key) ∧
  ∀ i p, es[i]? = some p → Bm g (es'.getD i default).val p.2 := by
 obtain ⟨t, gen, n, es, ht, hg⟩ := hb
 have hs := h.env t _ ht
 generalize hv : ts.getD t Go.undef = v at hs
 cases hs with
 | mapo hgb ho hh hf hn hb hk hr =>
  rw [hg] at hgb
  simp only [Option.some.injEq] at hgb
  subst hgb
  exact ⟨t, gen, n, es, _, ht, hg, ho, hh, hf, hn, hk, fun i p hp => (hr i p hp).1⟩
theorem Ua (h : AV T g w tss s ts) {c : Nat} (hc : ∀ t i, g.ow c ≠ some (.slot s.low.length t i)) : NQ g w (g.freeze w s.env) w c := by
 have h1 : ¬ ri g s.env c := fun hb => by
  obtain ⟨t, _, _, _, _, _, _, ho, _⟩ := dz h hb
  exact hc t 0 ho
 have h2 : ¬ qE g s.env c := fun hb => by
  obtain ⟨t, _, _, _, _, _, _, ho, _⟩ := mq h hb
  exact hc t 0 ho
 refine ⟨rfl, fun i => ?_, ?_, rfl⟩
 ·simp only [Gh.freeze, if_neg h1]
  cases g.im c i <;> rfl
 ·simp only [Gh.freeze, if_neg h2]
  cases g.fm c <;> rfl
theorem ge (h : AV T g w tss s ts) : I2 T (g.freeze w s.env) w s.ctr where
 im b i u hu := by
  simp only [Gh.freeze] at hu
  split at hu
  ·rename_i u' hu'
   simp only [Option.some.injEq] at hu; subst hu
   exact h.winv.im b i _ hu'
  ·split at hu
   ·exact hu
   ·simp at hu
 one b i u hu := by
  simp only [Gh.freeze] at hu
  split at hu
  ·rename_i u' hu'
   simp only [Option.some.injEq] at hu; subst hu
   exact h.winv.one b i _ hu'
  ·split at hu
   ·rename_i hb
    obtain ⟨t, gen, cs, vs, e, _, _, _, hh, _, hn, hk, _, hr⟩ := dz h hb
    have hi : i < vs.size := by
     rcases Nat.lt_or_ge i vs.size with h' | h'
     ·exact h'
     ·simp [World.cell?, hh, Array.getElem?_eq_none h'] at hu
    rw [DY hh hi] at hu
    simp only [Option.some.injEq] at hu
    subst hu
    have hx : cs[i]? = some (cs[i]'(by omega)) := List.getElem?_eq_getElem (by omega)
    exact Q9 (hr i _ hx) (hk _ (List.mem_of_getElem? hx))
   ·simp at hu
 fm b es hf := by
  simp only [Gh.freeze] at hf
  split at hf
  ·rename_i e he
   simp only [Option.some.injEq] at hf; subst hf
   exact h.winv.fm b _ he
  ·split at hf
   ·split at hf
    ·rename_i es' c hh
     simp only [Option.some.injEq] at hf; subst hf
     exact ⟨c, hh⟩
    ·simp at hf
   ·simp at hf
 ow := h.winv.ow
 gb := h.winv.gb
 lp := h.winv.lp
 ctr := h.winv.ctr
 globs n := (h.winv.globs n).mono (J5 g w s.env).im (J5 g w s.env).fm
theorem fE {α β : Type} {f : α → Option β} {l : List α} {r : List β} (h : l.mapM f = some r) : ∀ (i : Nat) (a : α), l[i]? = some a → ∃ b, r[i]? = some b ∧ f a = some b := by
 intro i a ha
 obtain ⟨h1, h2⟩ := K7 h
 have hi : i < r.length := by rw [h1]; exact (List.getElem?_eq_some_iff.1 ha).1
 obtain ⟨a', e1, e2⟩ := h2 i r[i] (List.getElem?_eq_getElem hi)
 rw [ha] at e1
 simp only [Option.some.injEq] at e1
 subst e1
 exact ⟨_, List.getElem?_eq_getElem hi, e2⟩
theorem NP (h : AV T g w tss s ts) : ∀ (d : Nat) {v : Value} {x y : LV}, freeze s.low.length s.env d x = some y → Bm g v x → Bm (g.freeze w s.env) v y ∧ y.cold = true
 | 0, v, x, y, hf, hr => by
  simp only [freeze] at hf
  split at hf
  ·simp only [Option.some.injEq] at hf; subst hf
   exact ⟨hr.mono (J5 g w s.env), rfl⟩
  ·simp at hf
 | d + 1, v, x, y, hf, hr => by
  have hle := J5 g w s.env
  have cn : ∀ {cs cs' : List LV} {us : Nat → Value}, cs.mapM (freeze s.low.length s.env d) = some cs' → (∀ i c, cs[i]? = some c → Bm g (us i) c) →
    cs'.length = cs.length ∧ (∀ i c, cs'[i]? = some c → Bm (g.freeze w s.env) (us i) c) ∧ ∀ c, c ∈ cs' → c.cold = true := by
   intro cs cs' us hm hu
   obtain ⟨m1, m2⟩ := K7 hm
   refine ⟨m1, fun i c hc => ?_, fun c hc => ?_⟩
   ·obtain ⟨a, ha, hfa⟩ := m2 i c hc
    exact (NP h d hfa (hu i a ha)).1
   ·obtain ⟨i, hi, hic⟩ := List.getElem_of_mem hc
    obtain ⟨a, ha, hfa⟩ := m2 i c (by rw [List.getElem?_eq_getElem hi, hic])
    exact (NP h d hfa (hu i a ha)).2
  cases x with
  | d z => simp only [freeze, Option.some.injEq] at hf; subst hf; exact ⟨hr.mono hle, rfl⟩
  | hot z xs => simp only [freeze, Option.some.injEq] at hf; subst hf; exact ⟨(hr.mono hle).cool, rfl⟩
  | full z xs =>
   simp only [freeze, Option.some.injEq] at hf; subst hf
   exact ⟨.d ((hr.mono hle).toD rfl), rfl⟩
  | ptr j t gen off =>
   simp only [freeze] at hf
   split at hf
   ·split at hf
    ·rename_i gen' cs ht
     split at hf
     ·rename_i hgen
      subst hgen
      simp only [Option.map_eq_some_iff] at hf
      obtain ⟨cs', hm, rfl⟩ := hf
      obtain ⟨b, rfl, hgb⟩ := hr.ptr'
      have hb : ri g s.env b := ⟨t, gen', cs, ht, hgb⟩
      have hs := h.env t _ ht
      generalize hv : ts.getD t Go.undef = u at hs
      cases hs with
      | @box b' _ _ vs e hgb' ho hh hi hn hk hrr =>
       rw [hgb] at hgb'
       simp only [Option.some.injEq] at hgb'
       subst hgb'
       obtain ⟨m1, m2, m3⟩ := cn hm (us := fun i => vs.getD i Go.undef) fun i c hc => (hrr i c hc).1
       have := Bm.fptr (g := g.freeze w s.env) b 0 off cs' (fun i => vs.getD i Go.undef) (fun c hc => Dt (m3 c hc)) (fun i hi' => by
        simp only [Gh.freeze, Nat.zero_add, hi i, if_pos hb]
        exact DY hh (by omega)) m2
       rw [Nat.zero_add] at this
       exact ⟨this.norm, C3 rfl⟩
     ·simp at hf
    ·simp at hf
   ·simp only [Option.some.injEq] at hf; subst hf; exact ⟨hr.mono hle, rfl⟩
  | mref j t gen =>
   simp only [freeze] at hf
   split at hf
   ·split at hf
    ·rename_i gen' n es ht
     split at hf
     ·rename_i hgen
      subst hgen
      simp only [Option.map_eq_some_iff] at hf
      obtain ⟨es2, hm, rfl⟩ := hf
      obtain ⟨b, rfl, hgb⟩ := hr.mref'
      have hb : qE g s.env b := ⟨t, gen', n, es, ht, hgb⟩
      have hs := h.env t _ ht
      generalize hv : ts.getD t Go.undef = u at hs
      cases hs with
      | @mapo b' _ _ _ es' hgb' ho hh hfm hn hbo hk hrr =>
       rw [hgb] at hgb'
       simp only [Option.some.injEq] at hgb'
       subst hgb'
       obtain ⟨m1, m2⟩ := K7 hm
       refine ⟨.d (.fmap b n es' es2 (by simp only [Gh.freeze, hfm, if_pos hb, hh]) (by rw [hn, m1]) (fun i p hp => ?_) fun i p hp => ?_), rfl⟩
       ·obtain ⟨a, ha, hfa⟩ := m2 i p hp
        simp only [Option.map_eq_some_iff] at hfa
        obtain ⟨z, _, rfl⟩ := hfa
        exact hk i a ha
       ·obtain ⟨a, ha, hfa⟩ := m2 i p hp
        simp only [Option.map_eq_some_iff, Option.bind_eq_some_iff] at hfa
        obtain ⟨z, ⟨y, hy, hz⟩, rfl⟩ := hfa
        exact (NP h d hy (hrr i a ha).1).1.toD hz
     ·simp at hf
    ·simp at hf
   ·simp only [Option.some.injEq] at hf; subst hf; exact ⟨hr.mono hle, rfl⟩
  | agg cs =>
   simp only [freeze, Option.map_eq_some_iff] at hf
   obtain ⟨cs', hm, rfl⟩ := hf
   cases hr with
   | agg vs _ hn hh hrr =>
    obtain ⟨m1, m2, m3⟩ := cn hm (us := fun i => vs.getD i Go.undef) hrr
    exact ⟨Bm.norm (.agg vs cs' (by rw [hn, m1]) (fun c hc => Dt (m3 c hc)) m2), C3 rfl⟩
  | tup cs =>
   simp only [freeze, Option.map_eq_some_iff] at hf
   obtain ⟨cs', hm, rfl⟩ := hf
   cases hr with
   | tup vs _ hn hrr =>
    obtain ⟨m1, m2, m3⟩ := cn hm (us := fun i => vs.getD i Go.undef) hrr
    refine ⟨Bm.norm (.tup vs cs' (by rw [hn, m1]) m2), C3 ?_⟩
    simp only [LV.cold, List.all_eq_true]
    intro c hc
    rw [Dt (m3 c hc)]; rfl
  | fptr cs off =>
   simp only [freeze, Option.map_eq_some_iff] at hf
   obtain ⟨cs', hm, rfl⟩ := hf
   cases hr with
   | fptr b o _ _ us hh hi hrr =>
    obtain ⟨m1, m2, m3⟩ := cn hm (us := us) hrr
    exact ⟨Bm.norm (.fptr b o off cs' us (fun c hc => Dt (m3 c hc)) (fun i hi' => hle.im _ _ _ (hi i (by omega))) m2), C3 rfl⟩
  | fn f a b =>
   simp only [freeze] at hf
   split at hf
   ·rename_i a' b' ha hb
    simp only [Option.some.injEq] at hf
    subst hf
    cases hr with
    | fn _ va vb _ _ hna hnb hha hhb hra hrb =>
     obtain ⟨m1, m2, m3⟩ := cn ha (us := fun i => va.getD i Go.undef) hra
     obtain ⟨n1, n2, n3⟩ := cn hb (us := fun i => vb.getD i Go.undef) hrb
     exact ⟨Bm.norm (.fn f va vb a' b' (by rw [hna, m1]) (by rw [hnb, n1]) m3 n3 m2 n2), C3 rfl⟩
   ·simp at hf
  | yield j gen =>
   simp only [freeze] at hf
   split at hf
   ·simp at hf
   ·simp only [Option.some.injEq] at hf; subst hf; exact ⟨hr.mono hle, rfl⟩
end
end Go.Lf
namespace Go.Lf
open Go
section
variable {T : Tables} {g : Gh} {w : World} {tss : List (Array Value)} {s s' : St} {ts : Array Value} {df : List Deferred} {C : AM}
variable {b : Frame} {k : List Item} {cs : List Frame}
theorem lZ (h : AV T g w tss s ts) {rv : ResultVar} {r : Nat × Option (Option Nat)} (hr : M3 T.P rv = some r) {x : LV} (hx : CC s r = some x) :
  ∃ v, (match rv with
   | .tmp t => (pure (ts.getD t Go.undef) : Sem Value)
   | .cell a t => do loadVar t (← asAddr (ts.getD a Go.undef))).run T.P w = .ok v w ∧ Bm g v x := by
 cases rv with
 | tmp t =>
  simp only [M3, Option.some.injEq] at hr
  subst hr
  simp only [CC, Option.some.injEq] at hx
  subst hx
  exact ⟨_, rfl, h.slot t⟩
 | cell a t =>
  simp only [M3, Option.map_eq_some_iff] at hr
  obtain ⟨kk, hk, rfl⟩ := hr
  simp only [CC] at hx
  split at hx
  ·rename_i gen cs hb
   have hs := h.env a _ hb
   generalize hv : ts.getD a Go.undef = v at hs
   cases hs with
   | @box b' _ _ vs e hgb ho hh hi hn hck hrr =>
    have hpart : part kk 0 cs = some x := by
     cases kk with
     | none => exact hx
     | some n =>
      simp only at hx
      split at hx
      ·rename_i hl
       simp only [part, List.drop_zero]
       rw [List.take_of_length_le (by omega), if_pos hl]
       exact hx
      ·simp at hx
    obtain ⟨p1, _, p3⟩ := TU (us := fun i => vs.getD i Go.undef) (fun i c hc => (hrr i c hc).1) hpart
    refine ⟨_, ?_, p1⟩
    simp only [asAddr, hv, Sem.run_bind, Sem.run_pure, Result.andThen_ok]
    exact OY (P := T.P) hk (b := b') (o := 0) (us := fun i => vs.getD (0 + i) Go.undef) (w := w) fun j hj => DY hh (by have := p3 j hj; omega)
  ·simp at hx
theorem Ox {P : Program} {α β : Type} {f : α → Sem β} {w : World} : ∀ {l : List α} {vs : List β}, l.length = vs.length → (∀ (i : Nat) (a : α) (v : β), l[i]? = some a → vs[i]? = some v → (f a).run P w = .ok v w) →
  (l.mapM f).run P w = .ok vs w
 | [], vs, hl, _ => by
  have : vs = [] := by cases vs <;> simp_all
  subst this; rfl
 | a :: l, [], hl, _ => by simp at hl
 | a :: l, v :: vs, hl, h => by
  have h1 := h 0 a v rfl rfl
  have h2 := Ox (P := P) (w := w) (l := l) (vs := vs) (by simpa using hl) fun i a v ha hv => h (i + 1) a v (by simpa using ha) (by simpa using hv)
  simp [List.mapM_cons, h1, h2]
theorem iK (h : AV T g w tss s ts) {f : Func} {rs : List (Nat × Option (Option Nat))} (hrs : f.results.toList.mapM (M3 T.P) = some rs) {xs : List LV}
  (hx : rs.mapM (fun r => (CC s r).bind (freeze s.low.length s.env 9)) = some xs) :
  ∃ vs : Array Value, (results f ts).run T.P w = .ok (if h : vs.size = 1 then vs[0] else .tuple vs) w ∧ vs.size = xs.length ∧ ∀ (i : Nat) (x : LV), xs[i]? = some x → Bm (g.freeze w s.env) (vs.getD i Go.undef) x ∧ x.cold = true := by
 obtain ⟨r1, _⟩ := K7 hrs
 have r2 := fun i a h => fE hrs i a h
 obtain ⟨x1, x2⟩ := K7 hx
 have x3 := fun i a h => fE hx i a h
 have each : ∀ i, i < xs.length → ∃ v rv x, f.results.toList[i]? = some rv ∧ xs[i]? = some x ∧ (match rv with
   | .tmp t => (pure (ts.getD t Go.undef) : Sem Value)
   | .cell a t => do loadVar t (← asAddr (ts.getD a Go.undef))).run T.P w = .ok v w ∧ Bm (g.freeze w s.env) v x ∧ x.cold = true := by
  intro i hi
  have hrv : f.results.toList[i]? = some (f.results.toList[i]'(by omega)) := List.getElem?_eq_getElem (by omega)
  obtain ⟨r, hr, hrr⟩ := r2 i _ hrv
  obtain ⟨x, hxx, hfx⟩ := x3 i r hr
  simp only [Option.bind_eq_some_iff] at hfx
  obtain ⟨y, hy, hfy⟩ := hfx
  obtain ⟨v, hv, hrep⟩ := lZ h hrr hy
  obtain ⟨q1, q2⟩ := NP h 9 hfy hrep
  exact ⟨v, _, x, hrv, hxx, hv, q1, q2⟩
 let vs : List Value := (List.range xs.length).map fun i => if hi : i < xs.length then Classical.choose (each i hi) else Go.undef
 have hvs : ∀ i (hi : i < xs.length), vs[i]? = some (Classical.choose (each i hi)) := fun i hi => by
  simp [vs, hi]
 have hlen : vs.length = xs.length := by simp [vs]
 refine ⟨vs.toArray, ?_, by simpa using hlen, fun i x hx' => ?_⟩
 ·unfold results
  have hm : (f.results.mapM fun (rv : ResultVar) => (match rv with
   | .tmp t => (pure (ts.getD t Go.undef) : Sem Value)
   | .cell a t => do loadVar t (← asAddr (ts.getD a Go.undef)))).run T.P w = .ok vs.toArray w := by
   rw [Array.mapM_eq_mapM_toList]
   have := Ox (P := T.P) (w := w) (l := f.results.toList) (vs := vs) (f := fun (rv : ResultVar) => (match rv with
    | .tmp t => (pure (ts.getD t Go.undef) : Sem Value)
    | .cell a t => do loadVar t (← asAddr (ts.getD a Go.undef)))) (by rw [hlen, x1, r1]) fun i a v ha hv => by
     have hi : i < xs.length := by rw [← hlen]; exact (List.getElem?_eq_some_iff.1 hv).1
     rw [hvs i hi] at hv
     simp only [Option.some.injEq] at hv
     subst hv
     obtain ⟨rv, x, e1, _, e3, _⟩ := Classical.choose_spec (each i hi)
     rw [ha] at e1
     simp only [Option.some.injEq] at e1
     subst e1
     exact e3
   simp only [Sem.run_map, this]
   rfl
  rw [Sem.run_bind]
  exact (congrArg (fun r => Result.andThen r _) hm).trans rfl
 ·have hi : i < xs.length := (List.getElem?_eq_some_iff.1 hx').1
  obtain ⟨rv, x', e1, e2, _, e4, e5⟩ := Classical.choose_spec (each i hi)
  rw [hx'] at e2
  simp only [Option.some.injEq] at e2
  subst e2
  refine ⟨?_, e5⟩
  rw [Array.getD_eq_getD_getElem?]
  simp only [List.getElem?_toArray, hvs i hi, Option.getD_some]
  exact e4
theorem Ry {P : Program} {fr : Frame} : ∀ (ds : List Nat) {w : World}, fr.mode = .returning → ds.Nodup → (∀ d, d ∈ ds → w.heap[d]? = some (.deferred (some []))) →
  ∃ w', Steps P (lone { fr with defers := aH ds } cs w) (lone { fr with defers := [] } cs w') ∧ (∀ c, c ∉ ds → w'.heap[c]? = w.heap[c]?) ∧ w'.heap.size = w.heap.size ∧ w'.os = w.os ∧ w'.tape = w.tape ∧ w'.output = w.output ∧
   (∀ a, w.cell? a ≠ none → w'.cell? a = w.cell? a) ∧ ∀ c, Qg w' c = Qg w c
 | [], w, _, _, _ => ⟨w, .refl _ _, fun _ _ => rfl, rfl, rfl, rfl, rfl, fun _ _ => rfl, fun _ => rfl⟩
 | d :: ds, w, hm, hn, h => by
  obtain ⟨hd, hn'⟩ := List.nodup_cons.1 hn
  have h0 := h d (by simp)
  have hlt : d < w.heap.size := (Array.getElem?_eq_some_iff.1 h0).1
  have htake : (Instr.takeDeferred d).run P w = .ok [] (AE w d (.deferred none)) := by
   have := run_takeDeferred (P := P) h0
   rw [this]
   rfl
  have hother : ∀ c, c ≠ d → (AE w d (.deferred none)).heap[c]? = w.heap[c]? := fun c hc => by rw [Az _ _ _ _ hlt, if_neg hc]
  have hst : step P (lone { fr with defers := aH (d :: ds) } cs w) = .next (lone { fr with defers := [] ++ aH ds } cs (AE w d (.deferred none))) :=
   step_collected (fr := { fr with defers := aH (d :: ds) }) (d := { target := .collected d, args := #[] }) (ds := aH ds) (by simp [hm]) rfl rfl htake
  obtain ⟨w', s1, s2, s3, s4, s5, s6, s7, s8⟩ := Ry (P := P) (fr := fr) ds (w := AE w d (.deferred none)) hm hn' fun e he => by
   rw [hother e (fun hh => hd (hh ▸ he))]; exact h e (by simp [he])
  refine ⟨w', (Steps.one hst).trans s1, fun c hc => ?_, by rw [s3]; simp [AE], s4, s5, s6, fun a ha => ?_, fun c => ?_⟩
  ·simp only [List.mem_cons, not_or] at hc
   rw [s2 c hc.2, hother c hc.1]
  ·have hne : a.block ≠ d := fun e => ha (by simp [World.cell?, e, h0])
   have hc : (AE w d (.deferred none)).cell? a = w.cell? a := Ej (hother _ hne)
   rw [s7 a (by rw [hc]; exact ha), hc]
  ·rw [s8 c]
   unfold Qg
   by_cases hc : c = d
   ·subst hc; rw [Az _ _ _ _ hlt, if_pos rfl, h0]; rfl
   ·rw [hother c hc]
end
end Go.Lf
namespace Go.Lf
open Go
section
variable {T : Tables} {g : Gh} {w : World} {tss : List (Array Value)} {s s' : St} {ts : Array Value} {df : List Deferred} {C : AM}
variable {b : Frame} {k : List Item} {cs : List Frame}
theorem Yz : ∀ (i : Nat) (xs : List LV) (t : Nat) (sl : A6), (Cm i xs).get t = some sl → ∃ x, i ≤ t ∧ xs[t - i]? = some x ∧ sl = .v x
 | i, [], t, sl, h => by simp [Cm, Env.get] at h
 | i, x :: xs, t, sl, h => by
  simp only [Cm, Env.get] at h
  split at h
  ·rename_i e; subst e
   simp only [Option.some.injEq] at h
   exact ⟨x, Nat.le_refl _, by simp, h.symm⟩
  ·rename_i hne
   obtain ⟨y, h1, h2, h3⟩ := Yz (i + 1) xs t sl h
   refine ⟨y, by omega, ?_, h3⟩
   rw [show t - i = (t - (i + 1)) + 1 by omega]
   simpa using h2
theorem AV.unwound (h : AV T g w tss s ts) {w' : World} {ds : List Nat} (hds : ∀ d, d ∈ ds → g.ow d = none ∧ w.heap[d]? = some (.deferred (some []))) (hold : ∀ c, c ∉ ds → w'.heap[c]? = w.heap[c]?)
  (hsz : w'.heap.size = w.heap.size) (hcell : ∀ a, w.cell? a ≠ none → w'.cell? a = w.cell? a) : AV T g w' tss s ts := by
 refine h.move ⟨fun b i u hu => ?_, h.winv.one, fun b es hf => ?_, fun b p hb => by rw [hsz]; exact h.winv.ow b p hb, fun n b hb => by rw [hsz]; exact h.winv.gb n b hb, fun b d hb => ?_, h.winv.ctr, h.winv.globs⟩ (.refl g)
  fun b p hb => ⟨hold b fun hd => by rw [(hds b hd).1] at hb; simp at hb, fun _ => rfl, rfl, rfl⟩
 ·have := h.winv.im b i u hu
  rw [hcell _ (by rw [this]; simp)]; exact this
 ·obtain ⟨c, hc⟩ := h.winv.fm b es hf
  exact ⟨c, by rw [hold b fun hd => by rw [(hds b hd).2] at hc; simp at hc]; exact hc⟩
 ·obtain ⟨r, hr, hrd⟩ := h.winv.lp b d hb
  exact ⟨r, by rw [hold b fun hd => by rw [(hds b hd).2] at hr; simp at hr]; exact hr, hrd⟩
theorem qk {f : Nat} {lf : EQ} (h : T.LP.funcs f = some lf) : ∃ fn c rs, T.P.funcs[f]? = some fn ∧ fn.body = some c ∧ GF T.P (T.ann f) fn.ntmps c = true ∧ fn.name ≠ "runtime.NumGoroutine" ∧
  fn.params.size + fn.nfree ≤ fn.ntmps ∧ fn.results.toList.mapM (M3 T.P) = some rs ∧ lf = { nparams := fn.params.size + fn.nfree, results := rs, body := Cc T.P (T.ann f) c } := by
 simp only [Tables.LP, vO] at h
 split at h
 ·rename_i fn hfn
  split at h
  ·rename_i hok
   unfold zC at hok
   unfold sK at h
   split at h
   ·rename_i c hc
    simp only [hc, Bool.and_eq_true, Bool.not_eq_true', decide_eq_true_eq] at hok
    split at h
    ·rename_i rs hrs
     simp only [Option.some.injEq] at h
     exact ⟨fn, c, rs, hfn, hc, hok.1.1, by simpa using hok.1.2, hok.2, hrs, h.symm⟩
    ·simp at h
   ·simp at h
  ·simp at h
 ·simp at h
theorem rD (hC : Lr T C) (hR : KO T C) (hmix : T.P.follows .mixedOrders = true) {n f : Nat} {args : List LV} {low : List Fr} {ctr : Nat} {v : LV} {low' : List Fr} {ctr' : Nat}
  (he : FM T.LP C n f args low ctr = some (v, low', ctr')) :
  (∃ fn, T.P.funcs[f]? = some fn ∧ fn.name ≠ "runtime.NumGoroutine" ∧ fn.body.isSome = true) ∧
  ∀ g w tss vargs, I2 T g w ctr → Gk T g w tss low → Dk g vargs args → ∀ cs, DL T.P (lone (Frame.enter T.P f vargs .normal) cs w) fun m' =>
   ∃ fr w' v' g', m' = lone fr cs w' ∧ fr.fn = f ∧ fr.leaving T.P w' (.returned v') ∧ Bm g' v' v ∧ v.cold = true ∧ V2 T g w ctr tss low' ctr' g' w' := by
 unfold FM at he
 split at he
 ·simp at he
 ·rename_i lf hlf
  obtain ⟨fn, c, rs, hfn, hbody, hok, hname, hpar, hrs, rfl⟩ := qk hlf
  refine ⟨⟨fn, hfn, hname, by rw [hbody]; rfl⟩, fun g w tss vargs hW hS hA cs => ?_⟩
  split at he
  ·rename_i hlen
   simp only at hlen he
   let bb : Frame := { (default : Frame) with fn := f, kind := .normal, roundOf := none }
   let ts0 : Array Value := vargs ++ Array.replicate (fn.ntmps - vargs.size) Go.undef
   have hsz : ts0.size = fn.ntmps := by simp [ts0, hA.size, hlen]; omega
   have hent : Frame.enter T.P f vargs .normal = bb.atR ⟨ts0, []⟩ [.code c] := by
    simp [Frame.enter, Frame.atR, hfn, hbody, bb, ts0]
   rw [hent]
   have hinv : AV T g w tss { env := Cm 0 args, low, ctr } ts0 := by
    refine ⟨hW, hS, fun t sl hs => ?_⟩
    obtain ⟨x, _, hx, rfl⟩ := Yz 0 args t sl hs
    simp only [Nat.sub_zero] at hx
    have hlt : t < vargs.size := by rw [hA.size]; exact (List.getElem?_eq_some_iff.1 hx).1
    have hg : ts0.getD t Go.undef = vargs.getD t Go.undef := by
     simp only [ts0, Array.getD_eq_getD_getElem?, Array.getElem?_append_left hlt]
    rw [hg]
    obtain ⟨r1, r2⟩ := hA.rep t x hx
    exact .v r1 (GK.of_cold r1 r2)
   have hdf : lU g w bb [] w.heap.size := ⟨Nat.le_refl _, .inl ⟨rfl, [], rfl, List.nodup_nil, fun d hd => by simp at hd⟩⟩
   have fin : ∀ (s : St) (jmp : zk), (jmp = .normal ∨ jmp = .ret) → AP T.LP C n (Cc T.P (T.ann f) c) { env := Cm 0 args, low, ctr } = some (jmp, s) →
     (∃ xs, rs.mapM (fun r => (CC s r).bind (freeze s.low.length s.env 9)) = some xs ∧ low' = s.low ∧ ctr' = s.ctr ∧ ((∃ x, xs = [x] ∧ v = x) ∨ (xs.length ≠ 1 ∧ v = LV.norm (.tup xs)))) →
     DL T.P (lone (bb.atR ⟨ts0, []⟩ [.code c]) cs w) fun m' =>
      ∃ fr w' v' g', m' = lone fr cs w' ∧ fr.fn = f ∧ fr.leaving T.P w' (.returned v') ∧ Bm g' v' v ∧ v.cold = true ∧ V2 T g w ctr tss low' ctr' g' w' := by
    intro s jmp hj hev hres
    obtain ⟨xs, hxs, rfl, rfl, hv⟩ := hres
    have hcode := aJ (T := T) (tss := tss) (b := bb) (cs := cs) (base := w.heap.size) hC hR hmix rfl (f := fn) hfn (n := n) c hok (df := []) (k := []) hsz hinv hdf hev
    refine hcode.bind fun m' hm' => ?_
    obtain ⟨g1, w1, ts1, df1, e1, e2, e3, e4, e5, e6, e7⟩ := hm'
    rcases e4.kind with ⟨_, ds, rfl, hnd, hds⟩ | ⟨_, l, d, hr, _⟩
    ·
     have hret : ∃ todo, DL T.P (lone { bb.atR ⟨ts1, aH ds⟩ todo with mode := .returning } cs w1) (fun m' =>
       ∃ fr w' v' g', m' = lone fr cs w' ∧ fr.fn = f ∧ fr.leaving T.P w' (.returned v') ∧ Bm g' v' v ∧ v.cold = true ∧ V2 T g w ctr tss s.low s.ctr g' w') →
       DL T.P m' (fun m' => ∃ fr w' v' g', m' = lone fr cs w' ∧ fr.fn = f ∧ fr.leaving T.P w' (.returned v') ∧ Bm g' v' v ∧ v.cold = true ∧ V2 T g w ctr tss s.low s.ctr g' w') := by
      rcases hj with rfl | rfl
      ·have e7' : m' = lone (bb.atR ⟨ts1, aH ds⟩ []) cs w1 := e7
       subst e7'
       exact ⟨[], fun h => DL.step (stepR_end rfl) h⟩
      ·obtain ⟨k', rfl⟩ := e7
       exact ⟨.code .ret :: k', fun h => DL.step (stepR_ret rfl) h⟩
     obtain ⟨todo, hret⟩ := hret
     refine hret ?_
     obtain ⟨w2, s1, s2, s3, s4, s5, s6, s7, s8⟩ := Ry (P := T.P) (cs := cs) (fr := { bb.atR ⟨ts1, aH ds⟩ todo with mode := .returning }) ds (w := w1) rfl hnd fun d hd => (hds d hd).2.2.2
     refine RJ s1 (DL.here ?_)
     have h2 : AV T g1 w2 tss s ts1 := e2.unwound (ds := ds) (fun d hd => ⟨(hds d hd).2.2.1, (hds d hd).2.2.2⟩) s2 s3 s7
     obtain ⟨vs, hrun, hvsz, hvr⟩ := iK h2 hrs hxs
     refine ⟨_, w2, _, g1.freeze w2 s.env, rfl, rfl, ⟨rfl, rfl, rfl, fn, hfn, hrun⟩, ?_, ?_, ⟨ge h2, ?_, ?_, fun n hn => e5 n hn, e6⟩⟩
     ·rcases hv with ⟨x, rfl, rfl⟩ | ⟨hne, rfl⟩
      ·have h1 : vs.size = 1 := hvsz
       rw [dif_pos h1]
       have := (hvr 0 v rfl).1
       simpa [Array.getD, h1] using this
      ·rw [dif_neg (by rw [hvsz]; exact hne)]
       exact Bm.norm (.tup vs xs hvsz fun i x hx => (hvr i x hx).1)
     ·rcases hv with ⟨x, rfl, rfl⟩ | ⟨hne, rfl⟩
      ·exact (hvr 0 v rfl).2
      ·refine C3 ?_
       simp only [LV.cold, List.all_eq_true]
       intro x hx
       obtain ⟨i, hi, hix⟩ := List.getElem_of_mem hx
       rw [Dt (hvr i x (by rw [List.getElem?_eq_getElem hi, hix])).2]; rfl
     ·exact h2.stack.keep (J5 _ _ _) fun c p hc hp => Ua h2 fun t i e => by
       rw [hc] at e
       simp only [Option.some.injEq] at e
       subst e
       simp [DR.level] at hp
     ·refine ⟨e1.le.trans (J5 _ _ _), fun c hc ho => ?_, by rw [s3]; exact e1.size, by rw [s4]; exact e1.os, by rw [s5]; exact e1.tape, by rw [s6]; exact e1.output, fun c => (s8 c).trans (e1.frz c)⟩
      have hu := e1.unch c hc ho
      have hnd' : c ∉ ds := fun hd => by have := (hds c hd).1; omega
      have hu2 : NQ g1 w1 g1 w2 c := ⟨s2 c hnd', fun _ => rfl, rfl, rfl⟩
      exact (hu.trans hu2).trans (Ua h2 fun t i e => by rw [hu.ow, ho] at e; simp at e)
    ·simp [bb] at hr
   have split_res : ∀ s : St, (match rs.mapM (fun r => (CC s r).bind (freeze s.low.length s.env 9)) with
     | some [x] => some (x, s.low, s.ctr)
     | some xs => some (LV.norm (.tup xs), s.low, s.ctr)
     | none => none) = some (v, low', ctr') →
     ∃ xs, rs.mapM (fun r => (CC s r).bind (freeze s.low.length s.env 9)) = some xs ∧ low' = s.low ∧ ctr' = s.ctr ∧ ((∃ x, xs = [x] ∧ v = x) ∨ (xs.length ≠ 1 ∧ v = LV.norm (.tup xs))) := by
    intro s hs
    split at hs
    ·rename_i x hx
     simp only [Option.some.injEq, Prod.mk.injEq] at hs
     obtain ⟨rfl, rfl, rfl⟩ := hs
     exact ⟨[x], hx, rfl, rfl, .inl ⟨x, rfl, rfl⟩⟩
    ·rename_i xs hx hne
     simp only [Option.some.injEq, Prod.mk.injEq] at hs
     obtain ⟨rfl, rfl, rfl⟩ := hs
     refine ⟨xs, hne, rfl, rfl, .inr ⟨fun hl => ?_, rfl⟩⟩
     obtain ⟨x, rfl⟩ := List.length_eq_one_iff.1 hl
     exact hx x rfl
    ·simp at hs
   split at he
   ·rename_i s hev
    exact fin s .normal (.inl rfl) hev (split_res s he)
   ·rename_i s hev
    exact fin s .ret (.inr rfl) hev (split_res s he)
   ·simp at he
  ·simp at he
end
end Go.Lf
