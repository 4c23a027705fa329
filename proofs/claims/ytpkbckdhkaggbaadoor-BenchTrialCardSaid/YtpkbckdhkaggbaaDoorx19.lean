/- A part of the proof. -/
import Derived.Test.YtpkbckdhkaggbaaDoorx7
import Derived.Test.YtpkbckdhkaggbaaDoorx18
set_option linter.all false
namespace Go.Lf
open Go
structure UL (T : Tables) (g : Gh) (w : World) (ctr : Nat) (tss : List (Array Value)) (low' : List Fr) (ctr' : Nat) (g' : Gh) (w' : World) : Prop where
 winv : IU T g' w' ctr'
 stack : F3 T g' w' tss low'
 kept : N5 g w g' w'
 gens : ∀ n, n < ctr → g'.gb n = g.gb n
 mono : ctr ≤ ctr'
structure Ds (g : Gh) (vs : Array Value) (xs : List LV) : Prop where
 size : vs.size = xs.length
 rep : ∀ (i : Nat) (x : LV), xs[i]? = some x → Bj g (vs.getD i Go.undef) x ∧ x.cold = true
def MB (T : Tables) (C : AP) : Prop := ∀ f args low ctr v low' ctr', C.call f args low ctr = some (v, low', ctr') →
 (∃ fn, T.P.funcs[f]? = some fn ∧ fn.name ≠ "runtime.NumGoroutine" ∧ fn.body.isSome = true) ∧
 ∀ g w tss vargs, IU T g w ctr → F3 T g w tss low → Ds g vargs args → ∀ cs, DL T.P (lone (Frame.enter T.P f vargs .normal) cs w) fun m' =>
  ∃ fr w' v' g', m' = lone fr cs w' ∧ fr.fn = f ∧ fr.leaving T.P w' (.returned v') ∧ Bj g' v' v ∧ v.cold = true ∧ UL T g w ctr tss low' ctr' g' w'
def KX (T : Tables) (C : AP) : Prop := ∀ j gen args low ctr b low' ctr', C.round j gen args low ctr = some (b, low', ctr') →
 ∀ g w tss vargs l, IU T g w ctr → F3 T g w tss low → Ds g vargs args → g.gb gen = some l →
  ∃ fid tmps as bd, (Instr.yield l vargs).run T.P w = .ok (.round l fid tmps as bd) w ∧ ∀ c cs, DL T.P (lone (Frame.round l fid tmps as bd .normal) (c :: cs) w) fun m' =>
   ∃ w' g', m' = lone (c.finish (.bool b)) cs w' ∧ UL T g w ctr tss low' ctr' g' w'
theorem On (ks : List Nat) (e : uI) (t : Nat) : (uI.keep ks e).get t = if t ∈ ks then e.get t else none := by
 unfold uI.keep
 induction ks with
 | nil => rfl
 | cons k ks ih =>
  rw [List.filterMap_cons]
  by_cases hk : k = t
  ·subst hk
   cases he : e.get k with
   | none =>
    simp only [Option.map_none, ih, he]
    split <;> simp
   | some s => simp [uI.get]
  ·have hm : t ∈ k :: ks ↔ t ∈ ks := ⟨fun h => (List.mem_cons.1 h).resolve_left fun h => hk h.symm, fun h => List.mem_cons_of_mem _ h⟩
   cases he : e.get k with
   | none => simp only [Option.map_none, ih, hm]
   | some s => simp only [Option.map_some, uI.get, hk, if_false, ih, hm]
section
variable {T : Tables} {g : Gh} {w : World} {tss : List (Array Value)} {s s' : St} {ts : Array Value} {dst : Option Nat} {gi : Nat} {df : List Deferred} {C : AP}
theorem RH {P : Program} {w : World} {f : Nat} {fn : Func} {args : Array Value} (h : P.funcs[f]? = some fn) (hn : fn.name ≠ "runtime.NumGoroutine") (hb : fn.body.isSome = true) :
  (callFunc f args).run P w = .ok (.enter f args) w := by
 have hb' : fn.body.isNone = false := by cases h' : fn.body <;> simp_all
 have hn' : (fn.name == "runtime.NumGoroutine") = false := by simpa using hn
 simp only [callFunc, program, bind, Sem.bind, Sem.run, h, hn', Bool.false_eq_true, if_false, hb']
 rfl
theorem ik {P : Program} {w : World} {f : Nat} {fn : Func} {va vb : Array Value} {c : Call} {ρ : Operand → Value} {o : Oper} {fo : Operand} (ho : o.op = .call c) (hc : c.callee = .value fo)
  (hf : ρ fo = .func (.func f) va vb) (h : P.funcs[f]? = some fn) (hn : fn.name ≠ "runtime.NumGoroutine") (hb : fn.body.isSome = true) :
  (execOp ρ o).run P w = .ok (.enter f (va ++ c.args.map ρ ++ vb)) w := by
 simp only [execOp, ho, resolve, hc, hf, Deferred.ofValue, Sem.run_bind, Sem.run_pure, Result.andThen_ok, invoke, RH h hn hb]
theorem Qw {v : Value} {x : LV} {f : Nat} {a b : List LV} (h : Bj g v x) (ht : target x = some (f, a, b)) :
  ∃ va vb, v = .func (.func f) va vb ∧ Ds g va a ∧ Ds g vb b := by
 unfold target at ht
 split at ht
 ·rename_i f' a' b'
  simp only [Option.some.injEq, Prod.mk.injEq] at ht
  obtain ⟨rfl, rfl, rfl⟩ := ht
  have := h.dinv
  cases this with
  | fn _ va vb _ _ h1 h2 h3 h4 =>
   refine ⟨va, vb, rfl, ⟨by simpa using h1, fun i x hx => ?_⟩, ⟨by simpa using h2, fun i x hx => ?_⟩⟩
   ·simp only [List.getElem?_map, Option.map_eq_some_iff] at hx
    obtain ⟨y, hy, rfl⟩ := hx
    exact ⟨.d (h3 i y hy), rfl⟩
   ·simp only [List.getElem?_map, Option.map_eq_some_iff] at hx
    obtain ⟨y, hy, rfl⟩ := hx
    exact ⟨.d (h4 i y hy), rfl⟩
 ·rename_i f' a' b'
  simp only [Option.some.injEq, Prod.mk.injEq] at ht
  obtain ⟨rfl, rfl, rfl⟩ := ht
  cases h with
  | fn _ va vb _ _ h1 h2 hha hhb h3 h4 =>
   exact ⟨va, vb, rfl, ⟨h1, fun i x hx => ⟨h3 i x hx, hha x (List.mem_of_getElem? hx)⟩⟩, ⟨h2, fun i x hx => ⟨h4 i x hx, hhb x (List.mem_of_getElem? hx)⟩⟩⟩
 ·simp at ht
theorem Ds.append {vs us : Array Value} {xs ys : List LV} (h : Ds g vs xs) (h' : Ds g us ys) : Ds g (vs ++ us) (xs ++ ys) := by
 refine ⟨by simp [h.size, h'.size], fun i x hx => ?_⟩
 by_cases hi : i < xs.length
 ·rw [List.getElem?_append_left hi] at hx
  rw [Array.getD_eq_getD_getElem?, Array.getElem?_append_left (by rw [h.size]; exact hi), ← Array.getD_eq_getD_getElem?]
  exact h.rep i x hx
 ·rw [List.getElem?_append_right (by omega)] at hx
  rw [Array.getD_eq_getD_getElem?, Array.getElem?_append_right (by rw [h.size]; omega), h.size, ← Array.getD_eq_getD_getElem?]
  exact h'.rep _ x hx
end
end Go.Lf
namespace Go.Lf
open Go
def Gh.release (g : Gh) (k : Nat) (vis : List Nat) : Gh := { g with ow := fun b => match g.ow b with
 | some (.slot j t i) => if j = k ∧ t ∉ vis then none else some (.slot j t i)
 | p => p }
theorem cy {g : Gh} {k : Nat} {vis : List Nat} {b : Nat} {p : DX} (h : (g.release k vis).ow b = some p) : g.ow b = some p := by
 simp only [Gh.release] at h
 split at h
 ·rename_i j t i hb
  split at h
  ·simp at h
  ·rw [hb]; exact h
 ·exact h
theorem RV {g : Gh} {k : Nat} {vis : List Nat} {b : Nat} {p : DX} (h : g.ow b = some p) (hp : ∀ t i, p = .slot k t i → t ∈ vis) : (g.release k vis).ow b = some p := by
 simp only [Gh.release, h]
 cases p with
 | loop j => rfl
 | slot j t i =>
  simp only
  rw [if_neg]
  rintro ⟨rfl, hn⟩
  exact hn (hp t i rfl)
theorem Rj {g : Gh} {k : Nat} {vis : List Nat} {b t i : Nat} (h : g.ow b = some (.slot k t i)) (ht : t ∉ vis) : (g.release k vis).ow b = none := by
 simp only [Gh.release, h]
 rw [if_pos ⟨by trivial, ht⟩]
theorem LS {g : Gh} {k : Nat} {vis : List Nat} {b : Nat} (h : g.ow b = none) : (g.release k vis).ow b = none := by
 simp only [Gh.release, h]
section
variable {T : Tables} {g : Gh} {w : World} {tss : List (Array Value)} {s s' : St} {ts : Array Value} {dst : Option Nat} {gi : Nat} {df : List Deferred} {C : AP}
theorem QN (k : Nat) (vis : List Nat) : g.Le (g.release k vis) := ⟨fun _ _ _ h => h, fun _ _ h => h, fun _ _ h => h, fun _ _ h => h⟩
theorem IU.release {c : Nat} (h : IU T g w c) (k : Nat) (vis : List Nat) : IU T (g.release k vis) w c :=
 ⟨h.im, h.one, h.fm, fun b p hb => h.ow b p (cy hb), h.gb, h.lp, h.ctr, h.globs⟩
theorem AS.pushed (h : AS T g w tss s ts) (vis : List Nat) : F3 T (g.release s.low.length vis) w (tss ++ [ts]) (s.low ++ [{ env := s.env.keep vis, loop := none }]) := by
 refine ⟨by simp [h.stack.len], fun j ts' fr h1 h2 => ?_⟩
 by_cases hj : j < s.low.length
 ·rw [List.getElem?_append_left hj] at h2
  rw [List.getElem?_append_left (by rw [h.stack.len]; exact hj)] at h1
  refine (h.stack.fr j ts' fr h1 h2).keep (QN _ _) fun b p hb hp => ⟨rfl, fun _ => rfl, rfl, ?_⟩
  rw [hb]
  refine RV hb fun t i e => ?_
  subst e
  simp only [DX.level] at hp
  omega
 ·have hl := (List.getElem?_eq_some_iff.1 h2).1
  simp only [List.length_append, List.length_singleton] at hl
  obtain rfl : j = s.low.length := by omega
  have h2' : fr = { env := s.env.keep vis, loop := none } := by simpa using h2.symm
  have h1' : ts' = ts := by
   rw [← h.stack.len] at h1; simpa using h1.symm
  subst h2'; subst h1'
  refine ⟨fun t sl hs => ?_, fun r hr => by simp at hr⟩
  simp only [On] at hs
  split at hs
  ·rename_i ht
   exact (h.env t sl hs).keep (QN _ _) fun b i hb => ⟨rfl, fun _ => rfl, rfl, by
    rw [hb]
    refine RV hb fun t' i' e => ?_
    simp only [DX.slot.injEq] at e
    rw [← e.2.1]; exact ht⟩
  ·simp at hs
def Gh.retake (g g1 : Gh) (k : Nat) (vis : List Nat) : Gh := { g1 with ow := fun b => match g.ow b with
 | some (.slot j t i) => if j = k ∧ t ∉ vis then some (.slot j t i) else g1.ow b
 | _ => g1.ow b }
theorem d5 {g g1 : Gh} {k : Nat} {vis : List Nat} {b t i : Nat} (h : g.ow b = some (.slot k t i)) (ht : t ∉ vis) : (g.retake g1 k vis).ow b = some (.slot k t i) := by
 simp only [Gh.retake, h]
 rw [if_pos ⟨by trivial, ht⟩]
theorem La (g g1 : Gh) (k : Nat) (vis : List Nat) (b : Nat) : (g.retake g1 k vis).ow b = g1.ow b ∨ ∃ t i, g.ow b = some (.slot k t i) ∧ t ∉ vis ∧ (g.retake g1 k vis).ow b = some (.slot k t i) := by
 simp only [Gh.retake]
 split
 ·rename_i j t i hb
  split
  ·rename_i hc
   obtain ⟨rfl, ht⟩ := hc
   exact .inr ⟨t, i, hb, ht, rfl⟩
  ·exact .inl rfl
 ·exact .inl rfl
theorem bM (g g1 : Gh) (k : Nat) (vis : List Nat) : g1.Le (g.retake g1 k vis) := ⟨fun _ _ _ h => h, fun _ _ h => h, fun _ _ h => h, fun _ _ h => h⟩
theorem AS.popped (h : AS T g w tss s ts) {vis : List Nat} {g1 : Gh} {w1 : World} {low' : List Fr} {c' : Nat} {fr : Fr} (hl : low'.length = s.low.length + 1) (hfr : low'.getLast? = some fr)
  (ha : UL T (g.release s.low.length vis) w s.ctr (tss ++ [ts]) low' c' g1 w1) :
  AS T (g.retake g1 s.low.length vis) w1 tss { env := uI.merge vis s.env fr.env, low := low'.dropLast, ctr := c' } ts ∧ N5 g w (g.retake g1 s.low.length vis) w1 ∧
   ∀ n, n < s.ctr → (g.retake g1 s.low.length vis).gb n = g.gb n := by
 have hle := bM g g1 s.low.length vis
 have hrel : ∀ b t i, g.ow b = some (.slot s.low.length t i) → t ∉ vis → NG g w (g.retake g1 s.low.length vis) w1 b ∧ g1.ow b = none := by
  intro b t i hb ht
  have hu := ha.kept.unch b (h.winv.ow _ _ hb) (Rj hb ht)
  exact ⟨⟨hu.heap, hu.im, hu.fm, by rw [d5 hb ht, hb]⟩, hu.ow.trans (Rj hb ht)⟩
 have hun : ∀ b p, g1.ow b = some p → NG g1 w1 (g.retake g1 s.low.length vis) w1 b := by
  intro b p hb
  refine ⟨rfl, fun _ => rfl, rfl, ?_⟩
  rcases La g g1 s.low.length vis b with e | ⟨t, i, h1, h2, _⟩
  ·exact e
  ·rw [(hrel b t i h1 h2).2] at hb; simp at hb
 have hlast : low'[s.low.length]? = some fr := by
  rw [List.getLast?_eq_getElem?, hl] at hfr
  simpa using hfr
 have hlen : (low'.dropLast).length = s.low.length := by simp [hl]
 refine ⟨⟨⟨ha.winv.im, ha.winv.one, ha.winv.fm, fun b p hb => ?_, ha.winv.gb, ha.winv.lp, ha.winv.ctr, fun n => (ha.winv.globs n).mono hle.im hle.fm⟩, ⟨by rw [hlen, h.stack.len], fun j ts' fr' h1 h2 => ?_⟩, fun t sl hs => ?_⟩,
  ⟨⟨fun b i u hu => ha.kept.le.im b i u hu, fun b e he => ha.kept.le.fm b e he, fun n b hb => ha.kept.le.gb n b hb, fun n b hb => ha.kept.le.lp n b hb⟩, fun b hb ho => ?_, ha.kept.size, ha.kept.os, ha.kept.tape, ha.kept.output, ha.kept.frz⟩, fun n hn => ha.gens n hn⟩
 ·rcases La g g1 s.low.length vis b with e | ⟨t, i, h1, h2, _⟩
  ·rw [e] at hb; exact ha.winv.ow _ _ hb
  ·exact Nat.lt_of_lt_of_le (h.winv.ow _ _ h1) ha.kept.size
 ·have hj : j < s.low.length := by rw [← hlen]; exact (List.getElem?_eq_some_iff.1 h2).1
  have h2' : low'[j]? = some fr' := by
   rw [List.getElem?_dropLast] at h2
   split at h2
   ·exact h2
   ·simp at h2
  have h1' : (tss ++ [ts])[j]? = some ts' := by rw [List.getElem?_append_left (by rw [h.stack.len]; exact hj)]; exact h1
  exact (ha.stack.fr j ts' fr' h1' h2').keep hle fun b p hb _ => hun b p hb
 ·simp only [KE] at hs
  simp only [hlen]
  by_cases hv : vis.contains t = true
  ·rw [if_pos hv] at hs
   split at hs
   ·have hts : (tss ++ [ts])[s.low.length]? = some ts := by rw [← h.stack.len]; simp
    exact ((ha.stack.fr s.low.length ts fr hts hlast).env t sl hs).keep hle fun b i hb => hun b _ hb
   ·simp at hs
  ·rw [if_neg hv] at hs
   have ht : t ∉ vis := by simpa using hv
   exact (h.env t sl hs).keep ⟨fun b i u hu => ha.kept.le.im b i u hu, fun b e he => ha.kept.le.fm b e he, fun n b hb => ha.kept.le.gb n b hb, fun n b hb => ha.kept.le.lp n b hb⟩ fun b i hb => (hrel b t i hb ht).1
 ·have hu := ha.kept.unch b hb (LS ho)
  refine ⟨hu.heap, hu.im, hu.fm, ?_⟩
  rcases La g g1 s.low.length vis b with e | ⟨t, i, h1, _, _⟩
  ·rw [e, hu.ow, LS ho, ho]
  ·rw [ho] at h1; simp at h1
def Gh.bare (g : Gh) : Gh := { g with gb := fun _ => none, ow := fun _ => none }
theorem IU.bare {c : Nat} (h : IU T g w c) : IU T g.bare w 0 :=
 ⟨h.im, h.one, h.fm, fun b p hb => by simp [Gh.bare] at hb, fun n b hb => by simp [Gh.bare] at hb, h.lp, fun _ _ => rfl, h.globs⟩
theorem AS.barePopped (h : AS T g w tss s ts) {g1 : Gh} {w1 : World} {low' : List Fr} {c' : Nat} (ha : UL T g.bare w 0 [] low' c' g1 w1) :
  AS T { g1 with gb := g.gb, ow := g.ow } w1 tss s ts ∧ N5 g w { g1 with gb := g.gb, ow := g.ow } w1 := by
 have hle : g.Le { g1 with gb := g.gb, ow := g.ow } := ⟨ha.kept.le.im, ha.kept.le.fm, fun _ _ h => h, ha.kept.le.lp⟩
 have hun : ∀ b, b < w.heap.size → NG g w { g1 with gb := g.gb, ow := g.ow } w1 b := fun b hb => by
  have hu := ha.kept.unch b hb rfl
  exact ⟨hu.heap, hu.im, hu.fm, rfl⟩
 have hW : IU T { g1 with gb := g.gb, ow := g.ow } w1 s.ctr :=
  ⟨ha.winv.im, ha.winv.one, ha.winv.fm, fun b p hb => Nat.lt_of_lt_of_le (h.winv.ow b p hb) ha.kept.size, fun n b hb => Nat.lt_of_lt_of_le (h.winv.gb n b hb) ha.kept.size, ha.winv.lp, h.winv.ctr, ha.winv.globs⟩
 exact ⟨h.move hW hle fun b p hb => hun b (h.winv.ow b p hb), hle, fun b hb _ => hun b hb, ha.kept.size, ha.kept.os, ha.kept.tape, ha.kept.output, ha.kept.frz⟩
theorem Nu {s s' : St} {d : Option Nat} {x : LV} (h : s.put d x = some s') : s'.ctr = s.ctr := by
 unfold St.put at h
 split at h
 ·simp only [Option.some.injEq] at h; rw [h]
 ·split at h <;> first
   | (simp at h; done)
   | (simp only [Option.some.injEq] at h; rw [← h])
def UY (T : Tables) (g : Gh) (w : World) (tss : List (Array Value)) (s s' : St) (ts : Array Value) (dst : Option Nat) (gi : Nat) (mk : Array Value → World → Machine) (m' : Machine) : Prop :=
 ∃ g' w' v, m' = mk (eb ts dst v) w' ∧ N5 g w g' w' ∧ AS T g' w' tss s' (eb ts dst v) ∧ (∀ n, n < s.ctr → n ≠ gi → g'.gb n = g.gb n) ∧ s.ctr ≤ s'.ctr
theorem Qs (ts : Array Value) (df : List Deferred) (dst : Option Nat) (v : Value) : (⟨ts, df⟩ : Act).put dst v = ⟨eb ts dst v, df⟩ := by
 cases dst <;> rfl
theorem X2 (h : AS T g w tss s ts) {xs : Array Operand} {ys : List vD} (hx : Ic xs = some ys) : Ds g (xs.map (⟨ts, df⟩ : Act).eval) (ys.map (s.val T.LP)) :=
 ⟨(h.vals (df := df) hx).1, (h.vals (df := df) hx).2⟩
variable {b : Frame} {k : List Item} {cs : List Frame} {ops : Array Oper} {i : Nat} {rest : List Nat}
theorem Wz (hC : MB T C) (hR : KX T C) (h : AS T g w tss s ts) (hd : ∀ d, dst = some d → d < ts.size) {o : Oper} (hoi : ops[i]? = some o) (hdst : o.dst = dst)
  (hw : Region.wanted o (yielded ops ts) = true) {c : Call} {fo : Operand} {f : vD} {args : List vD} {vis : List Nat} (ho : o.op = .call c) (hc : c.callee = .value fo) (hf : Aq fo = some f)
  (hargs : Ic c.args = some args) (he : evalOp T.LP C gi dst (.call f args (some vis)) s = some s') :
  DL T.P (lone (b.atR ⟨ts, df⟩ (.inRegion ops (i :: rest) :: k)) cs w) (UY T g w tss s s' ts dst gi fun ts' w' => lone (b.atR ⟨ts', df⟩ (.inRegion ops rest :: k)) cs w') := by
 subst hdst
 have hnd : ∀ c, o.op ≠ .defer c := by intro c' e; rw [ho] at e; simp at e
 have hF := h.val (df := df) hf
 have hA := X2 (df := df) h hargs
 have hrel := QN (g := g) s.low.length vis
 have hA' : Ds (g.release s.low.length vis) (c.args.map (⟨ts, df⟩ : Act).eval) (args.map (s.val T.LP)) := ⟨hA.size, fun i x hx => ⟨(hA.rep i x hx).1.mono hrel, (hA.rep i x hx).2⟩⟩
 have hW := h.winv.release s.low.length vis
 have hS := h.pushed vis
 have vN : ∀ (low' : List Fr) (c' : Nat) (g1 : Gh) (w1 : World) (v : Value) (x : LV) (fr : Fr), low'.length = s.low.length + 1 → low'.getLast? = some fr → UL T (g.release s.low.length vis) w s.ctr (tss ++ [ts]) low' c' g1 w1 →
   Bj g1 v x → x.cold = true → ({ env := uI.merge vis s.env fr.env, low := low'.dropLast, ctr := c' } : St).put o.dst x = some s' →
   UY T g w tss s s' ts o.dst gi (fun ts' w' => lone (b.atR ⟨ts', df⟩ (.inRegion ops rest :: k)) cs w') (lone (b.atR ⟨eb ts o.dst v, df⟩ (.inRegion ops rest :: k)) cs w1) := by
  intro low' c' g1 w1 v x fr hl hfr ha hr hcold hp
  obtain ⟨p1, p2, p3⟩ := h.popped hl hfr ha
  exact ⟨_, w1, v, rfl, p2, p1.put_cold hp hd (hr.mono (bM _ _ _ _)) hcold, fun n hn _ => p3 n hn, by rw [Nu hp]; exact ha.mono⟩
 simp only [evalOp] at he
 split at he
 ·
  rename_i j gen hfv
  rw [hfv] at hF
  split at he
  ·rename_i bb low' c' hround
   split at he
   ·rename_i fr hfr
    split at he
    ·rename_i hl
     generalize hfval : (⟨ts, df⟩ : Act).eval fo = fval at hF
     cases hF with
     | @yield l _ _ hgb =>
      obtain ⟨fid, tmps, as, bd, hy, hgo⟩ := hR j gen _ _ _ _ _ _ hround _ w _ _ l hW hS hA' hgb
      have hrun : (execOp (⟨ts, df⟩ : Act).eval o).run T.P w = .ok (.round l fid tmps as bd) w := by
       simp only [execOp, ho, resolve, hc, hfval, Deferred.ofValue, Sem.run_bind, Sem.run_pure, Result.andThen_ok, invoke]
       simpa using hy
      refine DL.step (jq hoi hw hnd hrun) ((hgo _ cs).mono fun m' hm' => ?_)
      obtain ⟨w1, g1, rfl, ha⟩ := hm'
      rw [LJ hoi, Qs]
      exact vN low' c' g1 w1 (.bool bb) (.d (.bool bb)) fr hl hfr ha (.d (.bool bb)) rfl he
    ·simp at he
   ·simp at he
  ·simp at he
 ·
  split at he
  ·rename_i f' a' b' ht
   obtain ⟨va, vb, hval, ra, rb⟩ := Qw hF ht
   split at he
   ·rename_i x low' c' hcall
    split at he
    ·rename_i fr hfr
     split at he
     ·rename_i hl
      obtain ⟨⟨fn, hfn, hname, hbody⟩, hgo⟩ := hC _ _ _ _ _ _ _ hcall
      have ra' : Ds (g.release s.low.length vis) va a' := ⟨ra.size, fun i x hx => ⟨(ra.rep i x hx).1.mono hrel, (ra.rep i x hx).2⟩⟩
      have rb' : Ds (g.release s.low.length vis) vb b' := ⟨rb.size, fun i x hx => ⟨(rb.rep i x hx).1.mono hrel, (rb.rep i x hx).2⟩⟩
      have hrun := ik (w := w) ho hc hval hfn hname hbody
      refine DL.step (XM hoi hw hnd hrun) ((hgo _ w _ _ hW hS ((ra'.append hA').append rb') _).bind fun m' hm' => ?_)
      obtain ⟨fr', w1, v1, g1, rfl, hff, hleave, hr, hcold, ha⟩ := hm'
      refine DL.step (step_leave_returned hleave) (DL.here ?_)
      rw [LJ hoi, Qs]
      exact vN low' c' g1 w1 v1 x fr hl hfr ha hr hcold he
     ·simp at he
    ·simp at he
   ·simp at he
  ·simp at he
theorem UF {vs : Array Value} {xs : List LV} {ds : List DV} (h : Ds g vs xs) (hd : AU xs = some ds) : Ds g.bare vs (ds.map .d) := by
 refine ⟨by rw [h.size, List.length_map, (Hl hd).1], fun i x hx => ?_⟩
 simp only [List.getElem?_map, Option.map_eq_some_iff] at hx
 obtain ⟨d, hd', rfl⟩ := hx
 obtain ⟨c, hc, hcd⟩ := HF hd hd'
 exact ⟨.d ((h.rep i c hc).1.toD hcd), rfl⟩
theorem YW (hC : MB T C) (h : AS T g w tss s ts) (hd : ∀ d, dst = some d → d < ts.size) {o : Oper} (hoi : ops[i]? = some o) (hdst : o.dst = dst)
  (hw : Region.wanted o (yielded ops ts) = true) {c : Call} {fo : Operand} {f : vD} {args : List vD} (ho : o.op = .call c) (hc : c.callee = .value fo) (hf : Aq fo = some f)
  (hargs : Ic c.args = some args) (he : evalOp T.LP C gi dst (.call f args none) s = some s') :
  DL T.P (lone (b.atR ⟨ts, df⟩ (.inRegion ops (i :: rest) :: k)) cs w) (UY T g w tss s s' ts dst gi fun ts' w' => lone (b.atR ⟨ts', df⟩ (.inRegion ops rest :: k)) cs w') := by
 subst hdst
 have hnd : ∀ c, o.op ≠ .defer c := by intro c' e; rw [ho] at e; simp at e
 have hF := h.val (df := df) hf
 have hA := X2 (df := df) h hargs
 simp only [evalOp] at he
 split at he
 ·rename_i f' a' b' ds ht hds
  obtain ⟨va, vb, hval, ra, rb⟩ := Qw hF ht
  split at he
  ·rename_i ad bd had hbd
   split at he
   ·rename_i x low' c' hcall
    split at he
    ·rename_i d hxd
     obtain ⟨⟨fn, hfn, hname, hbody⟩, hgo⟩ := hC _ _ _ _ _ _ _ hcall
     have hrun := ik (w := w) ho hc hval hfn hname hbody
     have hargs' : Ds g.bare (va ++ c.args.map (⟨ts, df⟩ : Act).eval ++ vb) ((ad ++ ds ++ bd).map .d) := by
      rw [List.map_append, List.map_append]
      exact ((UF ra had).append (UF hA hds)).append (UF rb hbd)
     refine DL.step (XM hoi hw hnd hrun) ((hgo _ w [] _ h.winv.bare ⟨rfl, fun j ts fr h1 _ => by simp at h1⟩ hargs' _).bind fun m' hm' => ?_)
     obtain ⟨fr', w1, v1, g1, rfl, hff, hleave, hr, hcold, ha⟩ := hm'
     refine DL.step (step_leave_returned hleave) (DL.here ?_)
     rw [LJ hoi, Qs]
     obtain ⟨p1, p2⟩ := h.barePopped ha
     exact ⟨_, w1, v1, rfl, p2, p1.put_cold he hd (.d (hr.toD hxd)) rfl, fun n _ _ => rfl, by rw [Nu he]; exact Nat.le_refl _⟩
    ·simp at he
   ·simp at he
  ·simp at he
 ·simp at he
end
end Go.Lf
