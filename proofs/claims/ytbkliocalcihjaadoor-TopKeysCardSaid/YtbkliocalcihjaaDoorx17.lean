/- A part of the proof. -/
import Derived.Test.YtbkliocalcihjaaDoorx16
import Derived.RowKit3
set_option linter.all false
namespace Go.Lf
open Go
section
variable {T : Tables} {g : Gh} {w : World} {tss : List (Array Value)} {s s' : St} {ts : Array Value} {df : List Deferred} {C : AM}
variable {b : Frame} {k : List Item} {cs : List Frame}
theorem gj {low : List Fr} {j gen : Nat} {r : KV} (h : Nq low j gen = some r) : ∃ env, low[j]? = some { env, loop := some r } ∧ r.gen = gen := by
 unfold Nq at h
 split at h
 ·rename_i env r' hj
  split at h
  ·rename_i hg
   simp only [Option.some.injEq] at h
   subst h
   exact ⟨env, hj, hg⟩
  ·simp at h
 ·simp at h
theorem AV.turnLoop (h : AV T g w tss s ts) {j gen l : Nat} {r : KV} (hr : Nq s.low j gen = some r) (hg : g.gb gen = some l) {ready : Bool} {pending : Option zk} (hp : ∀ q, pending = some q → q ≠ .normal) :
  ∃ rc, w.heap[l]? = some (.loop rc) ∧ rc.state = Cb r.ready r.pending ∧ rc.pending = r.pending.bind zk.code ∧
   ∀ o, o = Obj.loop { rc with state := Cb ready pending, pending := pending.bind zk.code } →
    N7 g w g (AE w l o) ∧ AV T g (AE w l o) tss { s with low := H5 s.low j ready pending } ts := by
 obtain ⟨env, hj, rfl⟩ := gj hr
 have hjl : j < s.low.length := (List.getElem?_eq_some_iff.1 hj).1
 obtain ⟨tj, htj⟩ : ∃ tj, tss[j]? = some tj := ⟨_, List.getElem?_eq_getElem (by rw [h.stack.len]; exact hjl)⟩
 have hf := h.stack.fr j tj _ htj hj
 obtain ⟨l', fn, ps, as, bd, dfb, e1, e2, e3, e4, e5, e6, f, e7, e8, e9, e10, e11, e12, e13⟩ := hf.loop r rfl
 rw [hg] at e1
 simp only [Option.some.injEq] at e1
 subst e1
 refine ⟨_, e4, rfl, rfl, fun o ho => ?_⟩
 subst ho
 have hlt : l < w.heap.size := (Array.getElem?_eq_some_iff.1 e4).1
 have hset : ∀ (o : Obj) (c : Nat), c ≠ l → (AE w l o).heap[c]? = w.heap[c]? := fun o c hc => by rw [Az _ _ _ _ hlt, if_neg hc]
 have hun : ∀ (o : Obj) (c : Nat), c ≠ l → NQ g w g (AE w l o) c := fun o c hc => ⟨hset o c hc, fun _ => rfl, rfl, rfl⟩
 refine ⟨⟨.refl g, fun c _ hc => hun _ c fun e => by subst e; rw [e3] at hc; simp at hc, by simp [AE], rfl, rfl, rfl, fun c => by
  unfold Qg
  by_cases hc : c = l
  ·subst hc; rw [Az _ _ _ _ hlt, if_pos rfl, e4]; rfl
  ·rw [hset _ c hc]⟩, ⟨⟨fun c i u hu => ?_, h.winv.one, fun c es hc => ?_, fun c p hc => by simpa [AE] using h.winv.ow c p hc,
  fun m c hc => by simpa [AE] using h.winv.gb m c hc, fun c d hc => ?_, h.winv.ctr, h.winv.globs⟩, ⟨by simp [H5, h.stack.len], fun j' ts' fr' h1 h2 => ?_⟩, fun t sl hs => ?_⟩⟩
 ·have hcell := h.winv.im c i u hu
  have hne : c ≠ l := fun e => by subst e; simp [World.cell?, e4] at hcell
  exact (Ej (a := ⟨c, i, none⟩) (hset _ c hne)).trans hcell
 ·obtain ⟨cl, hcl⟩ := h.winv.fm c es hc
  have hne : c ≠ l := fun e => by subst e; rw [e4] at hcl; simp at hcl
  exact ⟨cl, by rw [hset _ c hne]; exact hcl⟩
 ·obtain ⟨r3, hr3, hd3⟩ := h.winv.lp c d hc
  by_cases hcl : c = l
  ·subst hcl
   rw [e4] at hr3
   simp only [Option.some.injEq, Obj.loop.injEq] at hr3
   refine ⟨_, by rw [Az _ _ _ _ hlt, if_pos rfl], ?_⟩
   rw [← hd3, ← hr3]
  ·exact ⟨r3, by rw [hset _ c hcl]; exact hr3, hd3⟩
 ·by_cases hjj : j = j'
  ·subst hjj
   rw [htj] at h1
   simp only [Option.some.injEq] at h1
   subst h1
   have h2' : fr' = { env, loop := some { r with ready, pending } } := by
    simp only [H5, List.getElem?_modify, hj, if_true] at h2
    exact (Option.some.inj h2).symm
   subst h2'
   refine ⟨fun t sl hs => (hf.env t sl hs).keep (.refl g) fun c i hc => hun _ c fun e => by subst e; rw [e3] at hc; simp at hc, fun r0 hr0 => ?_⟩
   simp only [Option.some.injEq] at hr0
   subst hr0
   exact ⟨l, fn, ps, as, bd, dfb, hg, e2, e3, by rw [Az _ _ _ _ hlt, if_pos rfl], e5, hp, f, e7, e8, e9, e10, e11, e12, e13⟩
  ·have h2' : s.low[j']? = some fr' := by simpa [H5, List.getElem?_modify, hjj] using h2
   exact (h.stack.fr j' ts' fr' h1 h2').keep (.refl g) fun c p hc hpl => hun _ c fun e => by
    subst e; rw [e3] at hc; simp only [Option.some.injEq] at hc; subst hc; exact hjj (by simpa [DR.level] using hpl)
 ·have hlen : (H5 s.low j ready pending).length = s.low.length := by simp [H5]
  simp only [hlen]
  exact (h.env t sl hs).keep (.refl g) fun c i hc => hun _ c fun e => by subst e; rw [e3] at hc; simp at hc
theorem UF {kk : Nat} : ∀ (ps : List Nat) (xs : List LV) (vs : List Value) {e : Env} {ts : Array Value}, vs.length = xs.length → (∀ t, t ∈ ps → t < ts.size) →
  (∀ (i : Nat) (x : LV) (v : Value), xs[i]? = some x → vs[i]? = some v → Bm g v x ∧ x.cold = true) → (∀ t sl, e.get t = some sl → EA g w kk t (ts.getD t Go.undef) sl) →
  (∀ t sl, (E0 ps xs e).get t = some sl → EA g w kk t (((ps.zip vs).foldl (fun ts p => ts.setIfInBounds p.1 p.2) ts).getD t Go.undef) sl) ∧ ((ps.zip vs).foldl (fun ts p => ts.setIfInBounds p.1 p.2) ts).size = ts.size
 | [], xs, vs, e, ts, _, _, _, h => by
  have : E0 [] xs e = e := by cases xs <;> rfl
  rw [this]
  exact ⟨h, rfl⟩
 | t :: ps, [], [], e, ts, _, _, _, h => ⟨h, rfl⟩
 | t :: ps, x :: xs, [], e, ts, hl, _, _, _ => by simp at hl
 | t :: ps, [], v :: vs, e, ts, hl, _, _, _ => by simp at hl
 | t :: ps, x :: xs, v :: vs, e, ts, hl, hb, hr, h => by
  simp only [E0, List.zip_cons_cons, List.foldl_cons]
  obtain ⟨r1, r2⟩ := hr 0 x v rfl rfl
  obtain ⟨i1, i2⟩ := UF ps xs vs (e := e.set t (.v x)) (ts := ts.setIfInBounds t v) (by simpa using hl) (fun u hu => by simpa using hb u (by simp [hu])) (fun i x v hx hv => hr (i + 1) x v (by simpa using hx) (by simpa using hv)) fun u sl hs => by
   rw [EE] at hs
   split at hs
   ·rename_i e'; subst e'
    simp only [Option.some.injEq] at hs
    subst hs
    rw [LE _ _ _ (hb _ (by simp))]
    exact .v r1 (GK.of_cold r1 r2)
   ·rename_i hne
    rw [K8 _ _ _ _ hne]
    exact h u sl hs
  exact ⟨i1, by rw [i2]; simp⟩
theorem uH (e : Env) (f : Nat → A6 → A6) (t : Nat) : Env.get t (e.map fun p => (p.1, f p.1 p.2)) = (e.get t).map (f t) := by
 induction e with
 | nil => rfl
 | cons p r ih =>
  obtain ⟨u, x⟩ := p
  simp only [List.map_cons, Env.get]
  split
  ·rename_i h; subst h; rfl
  ·exact ih
theorem Zh {j kk t : Nat} {v : Value} {sl : A6} (h : EA g w j t v sl) : EA g w kk t v (EZ j t sl) := by
 cases h with
 | v h _ => exact .v h.copy (GK.of_cold h.copy (Ht _))
 | box hg _ _ _ _ _ _ => exact .v (.ptr hg) trivial
 | mapo hg _ _ _ _ _ _ _ => exact .v (.mref hg) trivial
theorem nI (hC : Lr T C) (hR : KO T C) (hmix : T.P.follows .mixedOrders = true) {n j gen : Nat} {args : List LV} {low : List Fr} {ctr : Nat} {bo : Bool} {low' : List Fr} {ctr' : Nat}
  (he : C6 T.LP C n j gen args low ctr = some (bo, low', ctr')) {g : Gh} {w : World} {tss : List (Array Value)} {vargs : Array Value} {l : Nat} (hW : I2 T g w ctr) (hS : Gk T g w tss low)
  (hA : Dk g vargs args) (hg : g.gb gen = some l) :
  ∃ fid tmps as bd, (Instr.yield l vargs).run T.P w = .ok (.round l fid tmps as bd) w ∧ ∀ c cs, DL T.P (lone (Frame.round l fid tmps as bd .normal) (c :: cs) w) fun m' =>
   ∃ w' g', m' = lone (c.finish (.bool bo)) cs w' ∧ V2 T g w ctr tss low' ctr' g' w' := by
 unfold C6 at he
 split at he
 ·rename_i env r hj
  split at he
  ·rename_i hcond
   obtain ⟨rfl, hready, hpend, hlen⟩ := hcond
   have hjl : j < low.length := (List.getElem?_eq_some_iff.1 hj).1
   obtain ⟨tj, htj⟩ : ∃ tj, tss[j]? = some tj := ⟨_, List.getElem?_eq_getElem (by rw [hS.len]; exact hjl)⟩
   have hf := hS.fr j tj _ htj hj
   obtain ⟨l', fn, ps, as, bd, dfb, e1, e2, e3, e4, e5, e6, f, e7, e8, e9, e10, e11, e12, e13⟩ := hf.loop r rfl
   rw [hg] at e1
   simp only [Option.some.injEq] at e1
   subst e1
   have hasz : vargs.size = ps.size := by rw [hA.size, hlen, ← e5]; simp
   refine ⟨fn, _, as, bd, run_yield e4 hasz, fun c cs => ?_⟩
   simp only
   let bb : Frame := { (default : Frame) with fn := fn, kind := .normal, roundOf := some l }
   have hfold : (ps.zip vargs).foldl (fun tmps (t, a) => tmps.setIfInBounds t a) tj = (r.params.zip vargs.toList).foldl (fun ts p => ts.setIfInBounds p.1 p.2) tj := by
    rw [← e5, ← Array.foldl_toList, Array.toList_zip]
   have hslots := UF (g := g) (w := w) (kk := low.length) r.params args vargs.toList (e := env.map fun p => (p.1, EZ j p.1 p.2)) (ts := tj) (by simpa using hA.size) (fun t ht => by rw [← e8]; exact e11 t ht)
    (fun i x v hx hv => by
     have := hA.rep i x hx
     rw [Array.getD_eq_getD_getElem?] at this
     simp only [Array.getElem?_toList] at hv
     rw [hv] at this; exact this) (fun t sl hs => by
     rw [uH env (EZ j)] at hs
     simp only [Option.map_eq_some_iff] at hs
     obtain ⟨sl0, h0, rfl⟩ := hs
     exact Zh (hf.env t sl0 h0))
   obtain ⟨hs1, hs2⟩ := hslots
   generalize hts : (r.params.zip vargs.toList).foldl (fun ts p => ts.setIfInBounds p.1 p.2) tj = ts0 at hs1 hs2 hfold
   rw [hfold]
   have hent : Frame.round l fn ts0 as bd .normal = bb.atR ⟨ts0, []⟩ [.code as, .beginRound, .code bd] := by
    simp [Frame.round, Frame.atR, bb]
   rw [hent]
   have hinv : AV T g w tss { env := E0 r.params args (env.map fun p => (p.1, EZ j p.1 p.2)), low, ctr } ts0 := ⟨hW, hS, hs1⟩
   have hsz : ts0.size = f.ntmps := by rw [hs2, e8]
   have hdf : lU g w bb [] 0 := ⟨Nat.zero_le _, .inr ⟨rfl, l, dfb, rfl, e2⟩⟩
   split at he
   ·rename_i s1 hev1
    split at he
    ·rename_i r1 hr1
     split at he
     ·rename_i hr1c
      split at he
      ·rename_i jmp s2 hev2
       rw [e12] at hev1
       refine (aJ (T := T) (tss := tss) (b := bb) (cs := c :: cs) (base := 0) hC hR hmix rfl (f := f) e7 (n := n) as e9 (df := []) (k := [.beginRound, .code bd]) hsz hinv hdf hev1).bind fun m' hm' => ?_
       obtain ⟨g1, w1, ts1, df1, k1, k2, k3, k4, k5, k6, rfl⟩ := hm'
       have hgb1 : g1.gb r.gen = some l := k1.le.gb _ _ hg
       obtain ⟨rc, c1, c2, c3, c4⟩ := k2.turnLoop hr1 hgb1 (ready := false) (pending := none) (fun q hq => by simp at hq)
       obtain ⟨b1, b2⟩ := c4 _ rfl
       have hrdy : rc.state = .ready := by rw [c2]; simp [Cb, hr1c.1]
       have hpn : rc.pending = none := by rw [c3, hr1c.2]; rfl
       have hdf1 : df1 = [] := by
        rcases k4.kind with ⟨q, _⟩ | ⟨q, _⟩
        ·simp [bb] at q
        ·exact q
       subst hdf1
       have hbr := run_beginRound (P := T.P) c1 hrdy
       have hobj : (Obj.loop { rc with state := LoopState.busy } : Obj) = .loop { rc with state := Cb false none, pending := (none : Option zk).bind zk.code } := by
        have : rc.pending = (none : Option zk).bind zk.code := hpn
        simp only [Cb, ← this]
        rfl
       refine DL.step (stepR_beginRound rfl hbr) ?_
       have hput : w1.putObj l (.loop { rc with state := .busy }) = AE w1 l (.loop { rc with state := Cb false none, pending := (none : Option zk).bind zk.code }) := by
        rw [← hobj]; rfl
       rw [hput]
       rw [e13] at hev2
       refine (aJ (T := T) (tss := tss) (b := bb) (cs := c :: cs) (base := 0) hC hR hmix rfl (f := f) e7 (n := n) bd e10 (df := []) (k := []) k3 b2 (k4.keep b1) hev2).bind fun m' hm' => ?_
       obtain ⟨g2, w2, ts2, df2, m1, m2, m3, m4, m5, m6, m7⟩ := hm'
       have hgb2 : g2.gb r.gen = some l := m1.le.gb _ _ hgb1
       unfold endRound at he
       split at he
       ·rename_i r2 hr2
        have fin : ∀ (bo' : Bool) (jc : Option zk), (∀ q, jc = some q → q ≠ .normal) → (bo' = jc.isNone) → bo = bo' → low' = H5 s2.low j bo' jc → ctr' = s2.ctr →
          ∃ v w', (Instr.endRound l (jc.bind zk.code)).run T.P w2 = .ok v w' ∧ v = .bool bo ∧ ∃ g', V2 T g w ctr tss low' ctr' g' w' := by
         intro bo' jc hjc hb hbo hlow hctr
         subst hbo; subst hlow; subst hctr; subst hb
         obtain ⟨rc2, d1, d2, d3, d4⟩ := m2.turnLoop hr2 hgb2 (ready := jc.isNone) (pending := jc) hjc
         obtain ⟨x1, x2⟩ := d4 _ rfl
         have hend := run_endRound (P := T.P) (jc.bind zk.code) d1
         have hnone : (jc.bind zk.code).isNone = jc.isNone := by
          cases jc with
          | none => rfl
          | some q => cases q with
           | normal => exact absurd rfl (hjc _ rfl)
           | exit id => rfl
           | ret => rfl
         have hst : (if (jc.bind zk.code).isNone = true then LoopState.ready else LoopState.done) = Cb jc.isNone jc := by
          rw [hnone]
          cases jc <;> simp [Cb]
         rw [hst, hnone] at hend
         refine ⟨_, _, hend, rfl, g2, x2.winv, x2.stack, ((k1.trans b1).trans m1).trans x1, fun m hm => ?_, Nat.le_trans k6 m6⟩
         rw [m5 m (Nat.lt_of_lt_of_le hm k6), k5 m hm]
        cases jmp with
        | normal =>
         simp only [Option.some.injEq, Prod.mk.injEq] at he
         obtain ⟨rfl, rfl, rfl⟩ := he
         obtain ⟨v, w3, q1, rfl, g3, q2⟩ := fin true none (fun q hq => by simp at hq) rfl rfl rfl rfl
         have m7' : m' = lone (bb.atR ⟨ts2, df2⟩ []) (c :: cs) w2 := m7
         subst m7'
         exact DL.step (stepR_round_end rfl rfl q1) (DL.here ⟨w3, g3, rfl, q2⟩)
        | exit id =>
         simp only [Option.some.injEq, Prod.mk.injEq] at he
         obtain ⟨rfl, rfl, rfl⟩ := he
         obtain ⟨v, w3, q1, rfl, g3, q2⟩ := fin false (some (.exit id)) (fun q hq => by simp at hq; subst hq; simp) rfl rfl rfl rfl
         obtain ⟨k', rfl, hx⟩ := m7
         exact DL.step (stepR_round_exit rfl rfl (by rw [hx]; rfl) q1) (DL.here ⟨w3, g3, rfl, q2⟩)
        | ret =>
         simp only [Option.some.injEq, Prod.mk.injEq] at he
         obtain ⟨rfl, rfl, rfl⟩ := he
         obtain ⟨v, w3, q1, rfl, g3, q2⟩ := fin false (some .ret) (fun q hq => by simp at hq; subst hq; simp) rfl rfl rfl rfl
         obtain ⟨k', rfl⟩ := m7
         exact DL.step (stepR_round_ret rfl rfl q1) (DL.here ⟨w3, g3, rfl, q2⟩)
       ·simp at he
      ·simp at he
     ·simp at he
    ·simp at he
   ·simp at he
  ·simp at he
 ·simp at he
theorem oq (hmix : T.P.follows .mixedOrders = true) : ∀ n, Lr T (C5 T.LP n) ∧ KO T (C5 T.LP n)
 | 0 => ⟨fun _ _ _ _ _ _ _ h => by simp [C5] at h, fun _ _ _ _ _ _ _ _ h => by simp [C5] at h⟩
 | n + 1 => by
  obtain ⟨hC, hR⟩ := oq hmix n
  exact ⟨fun f args low ctr v low' ctr' h => rD hC hR hmix h, fun j gen args low ctr bo low' ctr' h g w tss vargs l hW hS hA hg => nI hC hR hmix h hW hS hA hg⟩
end
end Go.Lf
namespace Go.Lf
open Go
def CQ (w : World) : Gh where
 im b i := match w.cell? ⟨b, i, none⟩ with
  | some u => if u.oneCell' = true then some u else none
  | none => none
 fm _ := none
 gb _ := none
 ow _ := none
 lp _ := none
theorem Z1 {w : World} {b i : Nat} {u : Value} (h : w.cell? ⟨b, i, none⟩ = some u) (ho : u.oneCell' = true) : (CQ w).im b i = some u := by
 simp [CQ, h, ho]
theorem oZ {T : Tables} {w : World} (hg : ∀ n, Cd (CQ w).im (CQ w).fm (.pointer (some ⟨n, 0, none⟩)) (.fptr (T.globs n) 0)) : I2 T (CQ w) w 0 where
 im b i u hu := by
  simp only [CQ] at hu
  split at hu
  ·rename_i u' hc
   split at hu
   ·simp only [Option.some.injEq] at hu; subst hu; exact hc
   ·simp at hu
  ·simp at hu
 one b i u hu := by
  simp only [CQ] at hu
  split at hu
  ·split at hu
   ·rename_i ho
    simp only [Option.some.injEq] at hu; subst hu; exact ho
   ·simp at hu
  ·simp at hu
 fm b es h := by simp [CQ] at h
 ow b p h := by simp [CQ] at h
 gb n b h := by simp [CQ] at h
 lp b d h := by simp [CQ] at h
 ctr n _ := rfl
 globs := hg
theorem l4 {T : Tables} (hmix : T.P.follows .mixedOrders = true) {n f : Nat} {args : List DV} {v : LV} {dv : DV} {low' : List Fr} {ctr' : Nat}
  (he : (C5 T.LP n).call f (args.map .d) [] 0 = some (v, low', ctr')) (hv : v.toD = some dv) {w : World} {vargs : Array Value}
  (hg : ∀ n, Cd (CQ w).im (CQ w).fm (.pointer (some ⟨n, 0, none⟩)) (.fptr (T.globs n) 0))
  (hsz : vargs.size = args.length) (ha : ∀ (i : Nat) (d : DV), args[i]? = some d → Cd (CQ w).im (CQ w).fm (vargs.getD i Go.undef) d) :
  Calls T.P f vargs w fun e w' => ∃ v' im fm, e = .returned v' ∧ Cd im fm v' dv ∧ (∀ b, b < w.heap.size → w'.heap[b]? = w.heap[b]?) ∧ w.heap.size ≤ w'.heap.size ∧ w'.os = w.os ∧ w'.tape = w.tape ∧ w'.output = w.output ∧ ∀ b, Qg w' b = Qg w b := by
 intro cs
 have hA : Dk (CQ w) vargs (args.map .d) := ⟨by simpa using hsz, fun i x hx => by
  simp only [List.getElem?_map, Option.map_eq_some_iff] at hx
  obtain ⟨d, hd, rfl⟩ := hx
  exact ⟨.d (ha i d hd), rfl⟩⟩
 obtain ⟨m', hs, fr, w', v', g', rfl, hf, hl, hr, _, haf⟩ := ((oq hmix n).1 f _ _ _ _ _ _ he).2 (CQ w) w [] vargs (oZ hg) ⟨rfl, fun j ts fr h => by simp at h⟩ hA cs
 exact ⟨.returned v', w', fr, ⟨v', g'.im, g'.fm, rfl, hr.toD hv, fun b hb => (haf.kept.unch b hb rfl).heap, haf.kept.size, haf.kept.os, haf.kept.tape, haf.kept.output, haf.kept.frz⟩, hs, hf, hl⟩
end Go.Lf
