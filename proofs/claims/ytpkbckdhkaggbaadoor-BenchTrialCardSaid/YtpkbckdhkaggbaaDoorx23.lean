/- A part of the proof. -/
import Derived.Test.YtpkbckdhkaggbaaDoorx22
import Derived.RangeFuncRecord
set_option linter.all false
namespace Go.Lf
open Go
section
variable {T : Tables} {g : Gh} {w : World} {tss : List (Array Value)} {s s' : St} {ts : Array Value} {df : List Deferred} {C : AP}
variable {b : Frame} {k : List Item} {cs : List Frame}
theorem jO (h : AS T g w tss s ts) {rv : ResultVar} {r : Nat × Option (Option Nat)} (hr : MW T.P rv = some r) {x : LV} (hx : Ci s r = some x) :
  ∃ v, (match rv with
   | .tmp t => (pure (ts.getD t Go.undef) : Sem Value)
   | .cell a t => do loadVar t (← asAddr (ts.getD a Go.undef))).run T.P w = .ok v w ∧ Bj g v x := by
 cases rv with
 | tmp t =>
  simp only [MW, Option.some.injEq] at hr
  subst hr
  simp only [Ci, Option.some.injEq] at hx
  subst hx
  exact ⟨_, rfl, h.slot t⟩
 | cell a t =>
  simp only [MW, Option.map_eq_some_iff] at hr
  obtain ⟨kk, hk, rfl⟩ := hr
  simp only [Ci] at hx
  split at hx
  ·rename_i gen cs hb
   have hs := h.env a _ hb
   generalize hv : ts.getD a Go.undef = v at hs
   cases hs with
   | @box b' _ _ vs e hgb ho hh hi hn hck hrr =>
    have hpart : part kk 0 cs = some x := by
     cases kk with
     | none => exact hx
     | some n =>
      simp only at hx
      split at hx
      ·rename_i hl
       simp only [part, List.drop_zero]
       rw [List.take_of_length_le (by omega), if_pos hl]
       exact hx
      ·simp at hx
    obtain ⟨p1, _, p3⟩ := S8 (us := fun i => vs.getD i Go.undef) (fun i c hc => (hrr i c hc).1) hpart
    refine ⟨_, ?_, p1⟩
    simp only [asAddr, hv, Sem.run_bind, Sem.run_pure, Result.andThen_ok]
    exact OX (P := T.P) hk (b := b') (o := 0) (us := fun i => vs.getD (0 + i) Go.undef) (w := w) fun j hj => Da hh (by have := p3 j hj; omega)
  ·simp at hx
theorem O4 {P : Program} {α β : Type} {f : α → Sem β} {w : World} : ∀ {l : List α} {vs : List β}, l.length = vs.length → (∀ (i : Nat) (a : α) (v : β), l[i]? = some a → vs[i]? = some v → (f a).run P w = .ok v w) →
  (l.mapM f).run P w = .ok vs w
 | [], vs, hl, _ => by
  have : vs = [] := by cases vs <;> simp_all
  subst this; rfl
 | a :: l, [], hl, _ => by simp at hl
 | a :: l, v :: vs, hl, h => by
  have h1 := h 0 a v rfl rfl
  have h2 := O4 (P := P) (w := w) (l := l) (vs := vs) (by simpa using hl) fun i a v ha hv => h (i + 1) a v (by simpa using ha) (by simpa using hv)
  simp [List.mapM_cons, h1, h2]
theorem ed (h : AS T g w tss s ts) {f : Func} {rs : List (Nat × Option (Option Nat))} (hrs : f.results.toList.mapM (MW T.P) = some rs) {xs : List LV}
  (hx : rs.mapM (fun r => (Ci s r).bind (freeze s.low.length s.env 9)) = some xs) :
  ∃ vs : Array Value, (results f ts).run T.P w = .ok (if h : vs.size = 1 then vs[0] else .tuple vs) w ∧ vs.size = xs.length ∧ ∀ (i : Nat) (x : LV), xs[i]? = some x → Bj (g.freeze w s.env) (vs.getD i Go.undef) x ∧ x.cold = true := by
 obtain ⟨r1, _⟩ := J6 hrs
 have r2 := fun i a h => cb hrs i a h
 obtain ⟨x1, x2⟩ := J6 hx
 have x3 := fun i a h => cb hx i a h
 have each : ∀ i, i < xs.length → ∃ v rv x, f.results.toList[i]? = some rv ∧ xs[i]? = some x ∧ (match rv with
   | .tmp t => (pure (ts.getD t Go.undef) : Sem Value)
   | .cell a t => do loadVar t (← asAddr (ts.getD a Go.undef))).run T.P w = .ok v w ∧ Bj (g.freeze w s.env) v x ∧ x.cold = true := by
  intro i hi
  have hrv : f.results.toList[i]? = some (f.results.toList[i]'(by omega)) := List.getElem?_eq_getElem (by omega)
  obtain ⟨r, hr, hrr⟩ := r2 i _ hrv
  obtain ⟨x, hxx, hfx⟩ := x3 i r hr
  simp only [Option.bind_eq_some_iff] at hfx
  obtain ⟨y, hy, hfy⟩ := hfx
  obtain ⟨v, hv, hrep⟩ := jO h hrr hy
  obtain ⟨q1, q2⟩ := MS h 9 hfy hrep
  exact ⟨v, _, x, hrv, hxx, hv, q1, q2⟩
 let vs : List Value := (List.range xs.length).map fun i => if hi : i < xs.length then Classical.choose (each i hi) else Go.undef
 have hvs : ∀ i (hi : i < xs.length), vs[i]? = some (Classical.choose (each i hi)) := fun i hi => by
  simp [vs, hi]
 have hlen : vs.length = xs.length := by simp [vs]
 refine ⟨vs.toArray, ?_, by simpa using hlen, fun i x hx' => ?_⟩
 ·unfold results
  have hm : (f.results.mapM fun (rv : ResultVar) => (match rv with
   | .tmp t => (pure (ts.getD t Go.undef) : Sem Value)
   | .cell a t => do loadVar t (← asAddr (ts.getD a Go.undef)))).run T.P w = .ok vs.toArray w := by
   rw [Array.mapM_eq_mapM_toList]
   have := O4 (P := T.P) (w := w) (l := f.results.toList) (vs := vs) (f := fun (rv : ResultVar) => (match rv with
    | .tmp t => (pure (ts.getD t Go.undef) : Sem Value)
    | .cell a t => do loadVar t (← asAddr (ts.getD a Go.undef)))) (by rw [hlen, x1, r1]) fun i a v ha hv => by
     have hi : i < xs.length := by rw [← hlen]; exact (List.getElem?_eq_some_iff.1 hv).1
     rw [hvs i hi] at hv
     simp only [Option.some.injEq] at hv
     subst hv
     obtain ⟨rv, x, e1, _, e3, _⟩ := Classical.choose_spec (each i hi)
     rw [ha] at e1
     simp only [Option.some.injEq] at e1
     subst e1
     exact e3
   simp only [Sem.run_map, this]
   rfl
  rw [Sem.run_bind]
  exact (congrArg (fun r => Result.andThen r _) hm).trans rfl
 ·have hi : i < xs.length := (List.getElem?_eq_some_iff.1 hx').1
  obtain ⟨rv, x', e1, e2, _, e4, e5⟩ := Classical.choose_spec (each i hi)
  rw [hx'] at e2
  simp only [Option.some.injEq] at e2
  subst e2
  refine ⟨?_, e5⟩
  rw [Array.getD_eq_getD_getElem?]
  simp only [List.getElem?_toArray, hvs i hi, Option.getD_some]
  exact e4
theorem Rl {P : Program} {fr : Frame} : ∀ (ds : List Nat) {w : World}, fr.mode = .returning → ds.Nodup → (∀ d, d ∈ ds → w.heap[d]? = some (.deferred (some []))) →
  ∃ w', Steps P (lone { fr with defers := Zr ds } cs w) (lone { fr with defers := [] } cs w') ∧ (∀ c, c ∉ ds → w'.heap[c]? = w.heap[c]?) ∧ w'.heap.size = w.heap.size ∧ w'.os = w.os ∧ w'.tape = w.tape ∧ w'.output = w.output ∧
   (∀ a, w.cell? a ≠ none → w'.cell? a = w.cell? a) ∧ ∀ c, QL w' c = QL w c
 | [], w, _, _, _ => ⟨w, .refl _ _, fun _ _ => rfl, rfl, rfl, rfl, rfl, fun _ _ => rfl, fun _ => rfl⟩
 | d :: ds, w, hm, hn, h => by
  obtain ⟨hd, hn'⟩ := List.nodup_cons.1 hn
  have h0 := h d (by simp)
  have hlt : d < w.heap.size := (Array.getElem?_eq_some_iff.1 h0).1
  have htake : (Instr.takeDeferred d).run P w = .ok [] (AD w d (.deferred none)) := by
   have := run_takeDeferred (P := P) h0
   rw [this]
   rfl
  have hother : ∀ c, c ≠ d → (AD w d (.deferred none)).heap[c]? = w.heap[c]? := fun c hc => by rw [Au _ _ _ _ hlt, if_neg hc]
  have hst : step P (lone { fr with defers := Zr (d :: ds) } cs w) = .next (lone { fr with defers := [] ++ Zr ds } cs (AD w d (.deferred none))) :=
   step_collected (fr := { fr with defers := Zr (d :: ds) }) (d := { target := .collected d, args := #[] }) (ds := Zr ds) (by simp [hm]) rfl rfl htake
  obtain ⟨w', s1, s2, s3, s4, s5, s6, s7, s8⟩ := Rl (P := P) (fr := fr) ds (w := AD w d (.deferred none)) hm hn' fun e he => by
   rw [hother e (fun hh => hd (hh ▸ he))]; exact h e (by simp [he])
  refine ⟨w', (Steps.one hst).trans s1, fun c hc => ?_, by rw [s3]; simp [AD], s4, s5, s6, fun a ha => ?_, fun c => ?_⟩
  ·simp only [List.mem_cons, not_or] at hc
   rw [s2 c hc.2, hother c hc.1]
  ·have hne : a.block ≠ d := fun e => ha (by simp [World.cell?, e, h0])
   have hc : (AD w d (.deferred none)).cell? a = w.cell? a := EQ (hother _ hne)
   rw [s7 a (by rw [hc]; exact ha), hc]
  ·rw [s8 c]
   unfold QL
   by_cases hc : c = d
   ·subst hc; rw [Au _ _ _ _ hlt, if_pos rfl, h0]; rfl
   ·rw [hother c hc]
end
end Go.Lf
namespace Go.Lf
open Go
section
variable {T : Tables} {g : Gh} {w : World} {tss : List (Array Value)} {s s' : St} {ts : Array Value} {df : List Deferred} {C : AP}
variable {b : Frame} {k : List Item} {cs : List Frame}
theorem Xy : ∀ (i : Nat) (xs : List LV) (t : Nat) (sl : BE), (DG i xs).get t = some sl → ∃ x, i ≤ t ∧ xs[t - i]? = some x ∧ sl = .v x
 | i, [], t, sl, h => by simp [DG, uI.get] at h
 | i, x :: xs, t, sl, h => by
  simp only [DG, uI.get] at h
  split at h
  ·rename_i e; subst e
   simp only [Option.some.injEq] at h
   exact ⟨x, Nat.le_refl _, by simp, h.symm⟩
  ·rename_i hne
   obtain ⟨y, h1, h2, h3⟩ := Xy (i + 1) xs t sl h
   refine ⟨y, by omega, ?_, h3⟩
   rw [show t - i = (t - (i + 1)) + 1 by omega]
   simpa using h2
theorem AS.unwound (h : AS T g w tss s ts) {w' : World} {ds : List Nat} (hds : ∀ d, d ∈ ds → g.ow d = none ∧ w.heap[d]? = some (.deferred (some []))) (hold : ∀ c, c ∉ ds → w'.heap[c]? = w.heap[c]?)
  (hsz : w'.heap.size = w.heap.size) (hcell : ∀ a, w.cell? a ≠ none → w'.cell? a = w.cell? a) : AS T g w' tss s ts := by
 refine h.move ⟨fun b i u hu => ?_, h.winv.one, fun b es hf => ?_, fun b p hb => by rw [hsz]; exact h.winv.ow b p hb, fun n b hb => by rw [hsz]; exact h.winv.gb n b hb, fun b d hb => ?_, h.winv.ctr, h.winv.globs⟩ (.refl g)
  fun b p hb => ⟨hold b fun hd => by rw [(hds b hd).1] at hb; simp at hb, fun _ => rfl, rfl, rfl⟩
 ·have := h.winv.im b i u hu
  rw [hcell _ (by rw [this]; simp)]; exact this
 ·obtain ⟨c, hc⟩ := h.winv.fm b es hf
  exact ⟨c, by rw [hold b fun hd => by rw [(hds b hd).2] at hc; simp at hc]; exact hc⟩
 ·obtain ⟨r, hr, hrd⟩ := h.winv.lp b d hb
  exact ⟨r, by rw [hold b fun hd => by rw [(hds b hd).2] at hr; simp at hr]; exact hr, hrd⟩
theorem mt {f : Nat} {lf : K7} (h : T.LP.funcs f = some lf) : ∃ fn c rs, T.P.funcs[f]? = some fn ∧ fn.body = some c ∧ FW T.P (T.ann f) fn.ntmps c = true ∧ fn.name ≠ "runtime.NumGoroutine" ∧
  fn.params.size + fn.nfree ≤ fn.ntmps ∧ fn.results.toList.mapM (MW T.P) = some rs ∧ lf = { nparams := fn.params.size + fn.nfree, results := rs, body := Ce T.P (T.ann f) c } := by
 simp only [Tables.LP, rL] at h
 split at h
 ·rename_i fn hfn
  split at h
  ·rename_i hok
   unfold s0 at hok
   unfold oG at h
   split at h
   ·rename_i c hc
    simp only [hc, Bool.and_eq_true, Bool.not_eq_true', decide_eq_true_eq] at hok
    split at h
    ·rename_i rs hrs
     simp only [Option.some.injEq] at h
     exact ⟨fn, c, rs, hfn, hc, hok.1.1, by simpa using hok.1.2, hok.2, hrs, h.symm⟩
    ·simp at h
   ·simp at h
  ·simp at h
 ·simp at h
theorem nD (hC : MB T C) (hR : KX T C) (hmix : T.P.follows .mixedOrders = true) {n f : Nat} {args : List LV} {low : List Fr} {ctr : Nat} {v : LV} {low' : List Fr} {ctr' : Nat}
  (he : KR T.LP C n f args low ctr = some (v, low', ctr')) :
  (∃ fn, T.P.funcs[f]? = some fn ∧ fn.name ≠ "runtime.NumGoroutine" ∧ fn.body.isSome = true) ∧
  ∀ g w tss vargs, IU T g w ctr → F3 T g w tss low → Ds g vargs args → ∀ cs, DL T.P (lone (Frame.enter T.P f vargs .normal) cs w) fun m' =>
   ∃ fr w' v' g', m' = lone fr cs w' ∧ fr.fn = f ∧ fr.leaving T.P w' (.returned v') ∧ Bj g' v' v ∧ v.cold = true ∧ UL T g w ctr tss low' ctr' g' w' := by
 unfold KR at he
 split at he
 ·simp at he
 ·rename_i lf hlf
  obtain ⟨fn, c, rs, hfn, hbody, hok, hname, hpar, hrs, rfl⟩ := mt hlf
  refine ⟨⟨fn, hfn, hname, by rw [hbody]; rfl⟩, fun g w tss vargs hW hS hA cs => ?_⟩
  split at he
  ·rename_i hlen
   simp only at hlen he
   let bb : Frame := { (default : Frame) with fn := f, kind := .normal, roundOf := none }
   let ts0 : Array Value := vargs ++ Array.replicate (fn.ntmps - vargs.size) Go.undef
   have hsz : ts0.size = fn.ntmps := by simp [ts0, hA.size, hlen]; omega
   have hent : Frame.enter T.P f vargs .normal = bb.atR ⟨ts0, []⟩ [.code c] := by
    simp [Frame.enter, Frame.atR, hfn, hbody, bb, ts0]
   rw [hent]
   have hinv : AS T g w tss { env := DG 0 args, low, ctr } ts0 := by
    refine ⟨hW, hS, fun t sl hs => ?_⟩
    obtain ⟨x, _, hx, rfl⟩ := Xy 0 args t sl hs
    simp only [Nat.sub_zero] at hx
    have hlt : t < vargs.size := by rw [hA.size]; exact (List.getElem?_eq_some_iff.1 hx).1
    have hg : ts0.getD t Go.undef = vargs.getD t Go.undef := by
     simp only [ts0, Array.getD_eq_getD_getElem?, Array.getElem?_append_left hlt]
    rw [hg]
    obtain ⟨r1, r2⟩ := hA.rep t x hx
    exact .v r1 (Fb.of_cold r1 r2)
   have hdf : iy g w bb [] w.heap.size := ⟨Nat.le_refl _, .inl ⟨rfl, [], rfl, List.nodup_nil, fun d hd => by simp at hd⟩⟩
   have vN : ∀ (s : St) (jmp : vI), (jmp = .normal ∨ jmp = .ret) → AX T.LP C n (Ce T.P (T.ann f) c) { env := DG 0 args, low, ctr } = some (jmp, s) →
     (∃ xs, rs.mapM (fun r => (Ci s r).bind (freeze s.low.length s.env 9)) = some xs ∧ low' = s.low ∧ ctr' = s.ctr ∧ ((∃ x, xs = [x] ∧ v = x) ∨ (xs.length ≠ 1 ∧ v = LV.norm (.tup xs)))) →
     DL T.P (lone (bb.atR ⟨ts0, []⟩ [.code c]) cs w) fun m' =>
      ∃ fr w' v' g', m' = lone fr cs w' ∧ fr.fn = f ∧ fr.leaving T.P w' (.returned v') ∧ Bj g' v' v ∧ v.cold = true ∧ UL T g w ctr tss low' ctr' g' w' := by
    intro s jmp hj hev hres
    obtain ⟨xs, hxs, rfl, rfl, hv⟩ := hres
    have hcode := ZY (T := T) (tss := tss) (b := bb) (cs := cs) (base := w.heap.size) hC hR hmix rfl (f := fn) hfn (n := n) c hok (df := []) (k := []) hsz hinv hdf hev
    refine hcode.bind fun m' hm' => ?_
    obtain ⟨g1, w1, ts1, df1, e1, e2, e3, e4, e5, e6, e7⟩ := hm'
    rcases e4.kind with ⟨_, ds, rfl, hnd, hds⟩ | ⟨_, l, d, hr, _⟩
    ·
     have hret : ∃ todo, DL T.P (lone { bb.atR ⟨ts1, Zr ds⟩ todo with mode := .returning } cs w1) (fun m' =>
       ∃ fr w' v' g', m' = lone fr cs w' ∧ fr.fn = f ∧ fr.leaving T.P w' (.returned v') ∧ Bj g' v' v ∧ v.cold = true ∧ UL T g w ctr tss s.low s.ctr g' w') →
       DL T.P m' (fun m' => ∃ fr w' v' g', m' = lone fr cs w' ∧ fr.fn = f ∧ fr.leaving T.P w' (.returned v') ∧ Bj g' v' v ∧ v.cold = true ∧ UL T g w ctr tss s.low s.ctr g' w') := by
      rcases hj with rfl | rfl
      ·have e7' : m' = lone (bb.atR ⟨ts1, Zr ds⟩ []) cs w1 := e7
       subst e7'
       exact ⟨[], fun h => DL.step (stepR_end rfl) h⟩
      ·obtain ⟨k', rfl⟩ := e7
       exact ⟨.code .ret :: k', fun h => DL.step (stepR_ret rfl) h⟩
     obtain ⟨todo, hret⟩ := hret
     refine hret ?_
     obtain ⟨w2, s1, s2, s3, s4, s5, s6, s7, s8⟩ := Rl (P := T.P) (cs := cs) (fr := { bb.atR ⟨ts1, Zr ds⟩ todo with mode := .returning }) ds (w := w1) rfl hnd fun d hd => (hds d hd).2.2.2
     refine Q1 s1 (DL.here ?_)
     have h2 : AS T g1 w2 tss s ts1 := e2.unwound (ds := ds) (fun d hd => ⟨(hds d hd).2.2.1, (hds d hd).2.2.2⟩) s2 s3 s7
     obtain ⟨vs, hrun, hvsz, hvr⟩ := ed h2 hrs hxs
     refine ⟨_, w2, _, g1.freeze w2 s.env, rfl, rfl, ⟨rfl, rfl, rfl, fn, hfn, hrun⟩, ?_, ?_, ⟨eE h2, ?_, ?_, fun n hn => e5 n hn, e6⟩⟩
     ·rcases hv with ⟨x, rfl, rfl⟩ | ⟨hne, rfl⟩
      ·have h1 : vs.size = 1 := hvsz
       rw [dif_pos h1]
       have := (hvr 0 v rfl).1
       simpa [Array.getD, h1] using this
      ·rw [dif_neg (by rw [hvsz]; exact hne)]
       exact Bj.norm (.tup vs xs hvsz fun i x hx => (hvr i x hx).1)
     ·rcases hv with ⟨x, rfl, rfl⟩ | ⟨hne, rfl⟩
      ·exact (hvr 0 v rfl).2
      ·refine C2 ?_
       simp only [LV.cold, List.all_eq_true]
       intro x hx
       obtain ⟨i, hi, hix⟩ := List.getElem_of_mem hx
       rw [Dm (hvr i x (by rw [List.getElem?_eq_getElem hi, hix])).2]; rfl
     ·exact h2.stack.keep (Jl _ _ _) fun c p hc hp => U6 h2 fun t i e => by
       rw [hc] at e
       simp only [Option.some.injEq] at e
       subst e
       simp [DX.level] at hp
     ·refine ⟨e1.le.trans (Jl _ _ _), fun c hc ho => ?_, by rw [s3]; exact e1.size, by rw [s4]; exact e1.os, by rw [s5]; exact e1.tape, by rw [s6]; exact e1.output, fun c => (s8 c).trans (e1.frz c)⟩
      have hu := e1.unch c hc ho
      have hnd' : c ∉ ds := fun hd => by have := (hds c hd).1; omega
      have hu2 : NG g1 w1 g1 w2 c := ⟨s2 c hnd', fun _ => rfl, rfl, rfl⟩
      exact (hu.trans hu2).trans (U6 h2 fun t i e => by rw [hu.ow, ho] at e; simp at e)
    ·simp [bb] at hr
   have split_res : ∀ s : St, (match rs.mapM (fun r => (Ci s r).bind (freeze s.low.length s.env 9)) with
     | some [x] => some (x, s.low, s.ctr)
     | some xs => some (LV.norm (.tup xs), s.low, s.ctr)
     | none => none) = some (v, low', ctr') →
     ∃ xs, rs.mapM (fun r => (Ci s r).bind (freeze s.low.length s.env 9)) = some xs ∧ low' = s.low ∧ ctr' = s.ctr ∧ ((∃ x, xs = [x] ∧ v = x) ∨ (xs.length ≠ 1 ∧ v = LV.norm (.tup xs))) := by
    intro s hs
    split at hs
    ·rename_i x hx
     simp only [Option.some.injEq, Prod.mk.injEq] at hs
     obtain ⟨rfl, rfl, rfl⟩ := hs
     exact ⟨[x], hx, rfl, rfl, .inl ⟨x, rfl, rfl⟩⟩
    ·rename_i xs hx hne
     simp only [Option.some.injEq, Prod.mk.injEq] at hs
     obtain ⟨rfl, rfl, rfl⟩ := hs
     refine ⟨xs, hne, rfl, rfl, .inr ⟨fun hl => ?_, rfl⟩⟩
     obtain ⟨x, rfl⟩ := List.length_eq_one_iff.1 hl
     exact hx x rfl
    ·simp at hs
   split at he
   ·rename_i s hev
    exact vN s .normal (.inl rfl) hev (split_res s he)
   ·rename_i s hev
    exact vN s .ret (.inr rfl) hev (split_res s he)
   ·simp at he
  ·simp at he
end
end Go.Lf
