/- A part of the proof. -/
import Derived.Test.YtbkliocalcihjaaDoorx7
import Derived.Laws.StructEq
set_option linter.all false
namespace Go.Lf
open Go
theorem EE (t u : Nat) (s : A6) (e : Env) : (Env.set t s e).get u = if u = t then some s else e.get u := by
 induction e with
 | nil =>
  simp only [Env.set, Env.get]
  by_cases h : t = u
  ·subst h; simp
  ·rw [if_neg h, if_neg (fun h' => h h'.symm)]
 | cons p r ih =>
  obtain ⟨v, x⟩ := p
  simp only [Env.set]
  by_cases h : v = t
  ·subst h
   simp only [if_pos, Env.get]
   by_cases h : v = u
   ·subst h; simp
   ·rw [if_neg h, if_neg (fun h' => h h'.symm), if_neg h]
  ·rw [if_neg h]
   simp only [Env.get]
   by_cases h' : v = u
   ·subst h'; rw [if_pos rfl, if_neg h, if_pos rfl]
   ·rw [if_neg h', if_neg h', ih]
def gB (ts : Array Value) (d : Option Nat) (v : Value) : Array Value := match d with
 | some d => ts.setIfInBounds d v
 | none => ts
theorem oH (ts : Array Value) (d : Option Nat) (v : Value) : (gB ts d v).size = ts.size := by
 cases d <;> simp [gB]
theorem LE (ts : Array Value) (d : Nat) (v : Value) (h : d < ts.size) : (ts.setIfInBounds d v).getD d Go.undef = v := by
 simp [Array.getD, h]
theorem K8 (ts : Array Value) (d t : Nat) (v : Value) (h : t ≠ d) : (ts.setIfInBounds d v).getD t Go.undef = ts.getD t Go.undef := by
 simp only [Array.getD, Array.size_setIfInBounds]
 split
 ·rename_i hh
  simp only [Array.getInternal_eq_getElem]
  rw [Array.getElem_setIfInBounds (by simpa using hh), if_neg (fun h' => h h'.symm)]
 ·rfl
structure AV (T : Tables) (g : Gh) (w : World) (tss : List (Array Value)) (s : St) (ts : Array Value) : Prop where
 winv : I2 T g w s.ctr
 stack : Gk T g w tss s.low
 env : ∀ t sl, s.env.get t = some sl → EA g w s.low.length t (ts.getD t Go.undef) sl
theorem zu.of_cold {g : Gh} {w : World} {p : DR} {v : Value} {x : LV} (h : x.isHot = false) : zu g w p v x := by
 cases x <;> simp_all [zu, LV.isHot]
theorem GK.of_cold {g : Gh} {w : World} {j t : Nat} {v : Value} {x : LV} (hr : Bm g v x) (h : x.cold = true) : GK g w j t v x := by
 cases x with
 | tup cs =>
  cases hr with
  | tup vs _ hn hr =>
   refine ⟨vs, rfl, fun i c hc => zu.of_cold ?_⟩
   simp only [LV.cold, List.all_eq_true] at h
   simpa using h c (List.mem_of_getElem? hc)
 | hot z xs => simp [LV.cold] at h
 | _ => trivial
section
variable {T : Tables} {g : Gh} {w : World} {tss : List (Array Value)} {s s' : St} {ts : Array Value}
theorem AV.put (h : AV T g w tss s ts) {dst : Option Nat} {x : LV} {v : Value} (hp : s.put dst x = some s') (hd : ∀ d, dst = some d → d < ts.size)
  (hr : Bm g v x) (ho : ∀ d, dst = some d → GK g w s.low.length d v x) : AV T g w tss s' (gB ts dst v) := by
 cases dst with
 | none => simp only [St.put, Option.some.injEq] at hp; subst hp; exact h
 | some d =>
  have he : s' = { s with env := s.env.set d (.v x) } := by
   simp only [St.put] at hp
   split at hp <;> first | (simp at hp; done) | (simp only [Option.some.injEq] at hp; exact hp.symm)
  subst he
  refine ⟨h.winv, h.stack, fun t sl hs => ?_⟩
  simp only [EE] at hs
  by_cases ht : t = d
  ·subst ht
   rw [if_pos rfl] at hs
   simp only [Option.some.injEq] at hs
   subst hs
   rw [gB, LE _ _ _ (hd _ rfl)]
   exact .v hr (ho _ rfl)
  ·rw [if_neg ht] at hs
   rw [gB, K8 _ _ _ _ ht]
   exact h.env t sl hs
theorem AV.put_cold (h : AV T g w tss s ts) {dst : Option Nat} {x : LV} {v : Value} (hp : s.put dst x = some s') (hd : ∀ d, dst = some d → d < ts.size)
 (hr : Bm g v x) (hc : x.cold = true) : AV T g w tss s' (gB ts dst v) := h.put hp hd hr fun _ _ => GK.of_cold hr hc
theorem AV.move (h : AV T g w tss s ts) {g' : Gh} {w' : World} (hw : I2 T g' w' s.ctr) (hl : g.Le g') (hk : ∀ b p, g.ow b = some p → NQ g w g' w' b) :
  AV T g' w' tss s ts :=
 ⟨hw, h.stack.keep hl fun b p hb _ => hk b p hb, fun t sl hs => (h.env t sl hs).keep hl fun b _ hb => hk b _ hb⟩
theorem WQ (x : LV) : x.cool.isHot = false := by cases x <;> rfl
theorem Ht (x : LV) : x.copy.cold = true := by
 cases x <;> simp [LV.copy, LV.cold, WQ]
theorem gk (x : LV) : x.copy.isHot = false := by cases x <;> rfl
theorem Dt {x : LV} (h : x.cold = true) : x.isHot = false := by cases x <;> simp_all [LV.cold, LV.isHot]
theorem Bm.cool {v : Value} {x : LV} (h : Bm g v x) : Bm g v x.cool := by
 cases h with
 | hot h => exact .d h
 | d h => exact .d h
 | full h => exact .full h
 | ptr h => exact .ptr h
 | mref h => exact .mref h
 | agg vs cs hn hh hr => exact .agg vs cs hn hh hr
 | tup vs cs hn hr => exact .tup vs cs hn hr
 | fn f va vb a b h1 h2 h3 h4 h5 h6 => exact .fn f va vb a b h1 h2 h3 h4 h5 h6
 | fptr b o off cs us hh hi hr => exact .fptr b o off cs us hh hi hr
 | yield h => exact .yield h
theorem Bm.copy {v : Value} {x : LV} (h : Bm g v x) : Bm g v x.copy := by
 cases h with
 | hot h => exact .d h
 | tup vs cs hn hr =>
  refine .tup vs _ (by simpa using hn) fun i c hc => ?_
  simp only [List.getElem?_map, Option.map_eq_some_iff] at hc
  obtain ⟨y, hy, rfl⟩ := hc
  exact (hr i y hy).cool
 | d h => exact .d h
 | full h => exact .full h
 | ptr h => exact .ptr h
 | mref h => exact .mref h
 | agg vs cs hn hh hr => exact .agg vs cs hn hh hr
 | fn f va vb a b h1 h2 h3 h4 h5 h6 => exact .fn f va vb a b h1 h2 h3 h4 h5 h6
 | fptr b o off cs us hh hi hr => exact .fptr b o off cs us hh hi hr
 | yield h => exact .yield h
theorem EA.ref {j t : Nat} {v : Value} {sl : A6} (h : EA g w j t v sl) : Bm g v (match sl with
  | .v x => x.copy
  | .box gn _ => .ptr j t gn 0
  | .mapo gn _ _ => .mref j t gn) := by
 cases h with
 | v h _ => exact h.copy
 | box hg _ _ _ _ _ _ => exact .ptr hg
 | mapo hg _ _ _ _ _ _ _ => exact .mref hg
theorem AV.slot (h : AV T g w tss s ts) (t : Nat) : Bm g (ts.getD t Go.undef) (s.slot t) := by
 unfold St.slot
 cases he : s.env.get t with
 | none => exact .d (.bot _)
 | some sl =>
  have := (h.env t sl he).ref
  cases sl <;> exact this
theorem R9 (s : St) (t : Nat) : (s.slot t).cold = true := by
 unfold St.slot
 split <;> first | exact Ht _ | rfl
theorem Cd.cv1 {im fm} {v : Value} {d : DV} (h : Lf.cv1 v = some d) : Cd im fm v d := by
 unfold Lf.cv1 at h
 split at h <;> first
  | (simp only [Option.some.injEq] at h; subst h; first | exact .bool _ | exact .int _ | exact .nils | exact .nilmap | exact .nilfn)
  | (simp at h; done)
theorem Cd.cvs {im fm} : ∀ {vs : List Value} {ds : List DV}, Lf.cvs vs = some ds → vs.length = ds.length ∧ ∀ (i : Nat) (c : DV), ds[i]? = some c → ∃ v, vs[i]? = some v ∧ Cd im fm v c
 | [], ds, h => by
  simp only [Lf.cvs, Option.some.injEq] at h
  subst h
  exact ⟨rfl, fun i c hc => by simp at hc⟩
 | x :: r, ds, h => by
  simp only [Lf.cvs] at h
  split at h
  ·rename_i y ys hy hys
   simp only [Option.some.injEq] at h
   subst h
   have := Cd.cvs (im := im) (fm := fm) hys
   refine ⟨by simp [this.1], fun i c hc => ?_⟩
   cases i with
   | zero =>
    simp only [List.getElem?_cons_zero, Option.some.injEq] at hc
    subst hc
    exact ⟨x, rfl, Cd.cv1 hy⟩
   | succ i =>
    simp only [List.getElem?_cons_succ] at hc ⊢
    exact this.2 i c hc
  ·simp at h
theorem Cd.cv {im fm} {v : Value} {d : DV} (h : Lf.cv v = some d) : Cd im fm v d := by
 unfold Lf.cv at h
 split at h
 ·rename_i cs
  simp only [Option.map_eq_some_iff] at h
  obtain ⟨ds, hds, rfl⟩ := h
  have := Cd.cvs (im := im) (fm := fm) hds
  refine .agg _ _ (by simpa using this.1) fun i c hc => ?_
  obtain ⟨v', hv', hr⟩ := this.2 i c hc
  simp only [Array.getElem?_toList] at hv'
  rw [Array.getD_eq_getD_getElem?, hv']
  exact hr
 ·exact Cd.cv1 h
theorem AV.val (h : AV T g w tss s ts) {df : List Deferred} {xo : Operand} {x : Opd} (hx : As xo = some x) : Bm g ((⟨ts, df⟩ : Act).eval xo) (s.val T.LP x) := by
 cases xo with
 | tmp t => simp only [As, Option.some.injEq] at hx; subst hx; exact h.slot t
 | const v =>
  simp only [As, Option.map_eq_some_iff] at hx
  obtain ⟨d, hd, rfl⟩ := hx
  exact .d (Cd.cv hd)
 | global n => simp only [As, Option.some.injEq] at hx; subst hx; exact .d (h.winv.globs n)
 | func f =>
  simp only [As, Option.some.injEq] at hx; subst hx
  exact .d (.fn f #[] #[] [] [] rfl rfl (by simp) (by simp))
theorem HI (LP : Aw) (s : St) (x : Opd) : (s.val LP x).cold = true := by
 cases x with
 | tmp t => exact R9 s t
 | _ => rfl
end
end Go.Lf
namespace Go.Lf
open Go
def Bd (T : Tables) (g : Gh) (w : World) (tss : List (Array Value)) (s s' : St) (ts : Array Value) (dst : Option Nat) (gi : Nat) (r : Result Next) : Prop :=
 ∃ g' w' v, (r = .ok (.value v) w' ∨ (r = .ok .skip w' ∧ v = Go.undef)) ∧ N7 g w g' w' ∧ AV T g' w' tss s' (gB ts dst v) ∧
  ∀ n, n < s.ctr → n ≠ gi → g'.gb n = g.gb n
section
variable {T : Tables} {g : Gh} {w : World} {tss : List (Array Value)} {s s' : St} {ts : Array Value} {dst : Option Nat} {gi : Nat} {df : List Deferred} {C : AM}
theorem A8 {r : Result Next} {v : Value} {x : LV} (h : AV T g w tss s ts) (hd : ∀ d, dst = some d → d < ts.size) (hr : r = .ok (.value v) w)
  (hp : s.put dst x = some s') (hx : Bm g v x) (hc : x.cold = true) : Bd T g w tss s s' ts dst gi r :=
 ⟨g, w, v, .inl hr, .refl g w, h.put_cold hp hd hx hc, fun _ _ _ => rfl⟩
theorem Bm.bool {v : Value} {x : LV} {b : Bool} (h : Bm g v x) (hb : EW x = some b) : v = .bool b := by
 cases x <;> simp only [EW] at hb <;> try (simp at hb; done)
 rename_i y
 cases y <;> simp only [Option.some.injEq] at hb <;> try (simp at hb; done)
 subst hb
 cases h with
 | d h => cases h; rfl
theorem Bm.int {v : Value} {x : LV} {n : Int} (h : Bm g v x) (hb : NS x = some n) : v = .int .i64 n := by
 cases x <;> simp only [NS] at hb <;> try (simp at hb; done)
 rename_i y
 cases y <;> simp only [Option.some.injEq] at hb <;> try (simp at hb; done)
 subst hb
 cases h with
 | d h => cases h; rfl
theorem Bm.nat {v : Value} {x : LV} {n : Nat} (h : Bm g v x) (hb : E1 x = some n) : v = .int .i64 n := by
 cases x <;> simp only [E1] at hb <;> try (simp at hb; done)
 rename_i y
 cases y <;> simp only at hb <;> try (simp at hb; done)
 split at hb
 ·simp only [Option.some.injEq] at hb
  cases h with
  | d h => cases h; rw [← hb, Int.toNat_of_nonneg ‹_›]
 ·simp at hb
theorem jI {xo : Operand} {x : Opd} {o : Oper} (h : AV T g w tss s ts) (hd : ∀ d, dst = some d → d < ts.size) (hx : As xo = some x)
  (ho : o.op = .move xo ∨ o.op = .assign xo) (he : s.put dst (s.val T.LP x) = some s') :
  Bd T g w tss s s' ts dst gi ((execOp (⟨ts, df⟩ : Act).eval o).run T.P w) :=
 A8 h hd (by rcases ho with ho | ho <;> simp only [execOp, ho] <;> rfl) he (h.val hx) (HI _ _ _)
theorem qc {co ao bo : Operand} {c a b : Opd} {o : Oper} (h : AV T g w tss s ts) (hd : ∀ d, dst = some d → d < ts.size) (hc : As co = some c)
  (ha : As ao = some a) (hb : As bo = some b) (ho : o.op = .pick co ao bo) (he : evalOp T.LP C gi dst (.pick c a b) s = some s') :
  Bd T g w tss s s' ts dst gi ((execOp (⟨ts, df⟩ : Act).eval o).run T.P w) := by
 simp only [evalOp] at he
 have hC := h.val (df := df) hc
 split at he
 ·rename_i hh
  refine A8 h hd ?_ he (h.val (df := df) ha) (HI _ _ _)
  simp [execOp, ho, hC.bool hh, asBool]
 ·rename_i hh
  refine A8 h hd ?_ he (h.val (df := df) hb) (HI _ _ _)
  simp [execOp, ho, hC.bool hh, asBool]
 ·simp at he
theorem uJ {op : BinOp} {t u : TypeId} {xo yo : Operand} {x y : Opd} {o : Oper} (h : AV T g w tss s ts) (hd : ∀ d, dst = some d → d < ts.size)
  (hx : As xo = some x) (hy : As yo = some y) (ho : o.op = .binOp op t xo yo u)
  (he : evalOp T.LP C gi dst (.bin op x y) s = some s') : Bd T g w tss s s' ts dst gi ((execOp (⟨ts, df⟩ : Act).eval o).run T.P w) := by
 simp only [evalOp] at he
 have hX := h.val (df := df) hx
 have hY := h.val (df := df) hy
 split at he
 ·rename_i a b ha hb
  have h1 := hX.int ha
  have h2 := hY.int hb
  split at he
  ·rename_i v hv
   have hrun : ∃ u, binOp op 0 (.int .i64 a) (.int .i64 b) = .pure u ∧ Cd g.im g.fm u v := by
    unfold BZ at hv
    split at hv <;> first
     | (simp only [Option.some.injEq] at hv; subst hv; exact ⟨_, by assumption, by first | exact .int _ | exact .bool _⟩)
     | (simp at hv; done)
   obtain ⟨u', hu, hr⟩ := hrun
   have heq : binOp op t (.int .i64 a) (.int .i64 b) = binOp op 0 (.int .i64 a) (.int .i64 b) := by cases op <;> rfl
   refine A8 h hd (v := u') ?_ he (.d hr) rfl
   simp only [execOp, ho, h1, h2]
   have hg : ∀ (xo yo : Operand), (eqGuard op t xo yo (.int .i64 a) (.int .i64 b)).run T.P w = .ok () w := by
    intro xo yo
    unfold eqGuard
    cases op <;> simp
   simp [hg, heq, hu]
  ·simp at he
 ·simp at he
theorem xA {op : UnOp} {t : TypeId} {xo : Operand} {x : Opd} {o : Oper} (h : AV T g w tss s ts) (hd : ∀ d, dst = some d → d < ts.size)
  (hx : As xo = some x) (ho : o.op = .unOp op t xo)
  (he : evalOp T.LP C gi dst (.un op x) s = some s') : Bd T g w tss s s' ts dst gi ((execOp (⟨ts, df⟩ : Act).eval o).run T.P w) := by
 simp only [evalOp] at he
 have hX := h.val (df := df) hx
 have key : ∀ (v0 : Value) (v : DV), (⟨ts, df⟩ : Act).eval xo = v0 → BZ (Op.unary op v0) = some v → s.put dst (.d v) = some s' →
   Bd T g w tss s s' ts dst gi ((execOp (⟨ts, df⟩ : Act).eval o).run T.P w) := by
  intro v0 v h0 hv hp
  have hrun : ∃ u, Op.unary op v0 = .pure u ∧ Cd g.im g.fm u v := by
   unfold BZ at hv
   split at hv <;> first
    | (simp only [Option.some.injEq] at hv; subst hv; exact ⟨_, by assumption, by first | exact .int _ | exact .bool _⟩)
    | (simp at hv; done)
  obtain ⟨u', hu, hr⟩ := hrun
  refine A8 h hd (v := u') ?_ hp (.d hr) rfl
  simp [execOp, ho, h0, hu]
 split at he
 ·rename_i a ha
  rw [ha] at hX
  split at he
  ·exact key _ _ (hX.int rfl) (by assumption) he
  ·simp at he
 ·rename_i a ha
  rw [ha] at hX
  split at he
  ·exact key _ _ (hX.bool rfl) (by assumption) he
  ·simp at he
 ·simp at he
theorem Ae {P : Program} {w : World} {t : TypeId} {d : TypeDesc} (h : P.underlying t = some d) : (underlying t).run P w = .ok d w := by
 simp [underlying, h]
theorem RY {P : Program} {w : World} {t : TypeId} {i : TypeInfo} (h : P.info? t = some i) : (typeInfo t).run P w = .ok i w := by
 simp [typeInfo, h]
theorem CO {P : Program} {w : World} {t : TypeId} {i : TypeInfo} (h : P.info? t = some i) : (sizeOf t).run P w = .ok i.size w := by
 simp [sizeOf, RY h]
theorem PN {P : Program} {w : World} {t : TypeId} {i : TypeInfo} {v : Value} (h : P.info? t = some i) (hz : i.zero = some v) : (zeroValue t).run P w = .ok v w := by
 simp [zeroValue, RY h, hz]
theorem TJ {P : Program} {w : World} {t : TypeId} (hu : P.underlying t = some .bool) (a b : Bool) (d : Nat) :
  (Op.equalIn (d + 1) t (.bool a) (.bool b)).run P w = .ok (a == b) w := by
 simp only [Op.equalIn]
 simp [Ae hu]
theorem Nc {P : Program} {w : World} {t : TypeId} (hu : P.underlying t = some .bool) (a b : Bool) :
 (Op.equal t (.bool a) (.bool b)).run P w = .ok (a == b) w := TJ hu a b 9999
theorem PY {P : Program} {w : World} {t : TypeId} {x y : Value} {r : Bool} (h : (Op.equal t x y).run P w = .ok r w) (hb : binOp .eql t x y = (do pure (.bool (← Op.equal t x y)))) :
  (binOp .eql t x y).run P w = .ok (.bool r) w := by
 rw [hb]; simp [h]
theorem PZ {P : Program} {w : World} {t : TypeId} {x y : Value} {r : Bool} (h : (Op.equal t x y).run P w = .ok r w) (hb : binOp .neq t x y = (do pure (.bool (!(← Op.equal t x y))))) :
  (binOp .neq t x y).run P w = .ok (.bool (!r)) w := by
 rw [hb]; simp [h]
theorem oc {neg : Bool} {t u : TypeId} {xo yo : Operand} {x y : Opd} {o : Oper} (h : AV T g w tss s ts) (hd : ∀ d, dst = some d → d < ts.size)
  (hx : As xo = some x) (hy : As yo = some y) (hu : T.P.underlying t = some .bool) (ho : o.op = .binOp (if neg then .neq else .eql) t xo yo u)
  (he : evalOp T.LP C gi dst (.eqb neg x y) s = some s') : Bd T g w tss s s' ts dst gi ((execOp (⟨ts, df⟩ : Act).eval o).run T.P w) := by
 simp only [evalOp] at he
 have hX := h.val (df := df) hx
 have hY := h.val (df := df) hy
 split at he
 ·rename_i a b ha hb
  refine A8 h hd (v := .bool (if neg then a != b else a == b)) ?_ he (.d (.bool _)) rfl
  have h1 := hX.bool ha
  have h2 := hY.bool hb
  have hg : ∀ (op : BinOp), (eqGuard op t xo yo (.bool a) (.bool b)).run T.P w = .ok () w := by
   intro op
   unfold eqGuard
   cases op <;> simp
  cases neg
  ·have := PY (Nc (w := w) hu a b) rfl
   simp only [execOp, ho, h1, h2]
   simp [hg, this]
  ·have := PZ (Nc (w := w) hu a b) rfl
   simp only [execOp, ho, h1, h2]
   simp [hg, this]
   cases a <;> cases b <;> rfl
 ·simp at he
end
end Go.Lf
namespace Go.Lf
open Go
def ax (P : Program) (t : TypeId) (ks : List Int) : Value := match P.underlying t with
 | some (.struct _) | some (.array _ _) => .agg (ks.map (.int .i64)).toArray
 | _ => .int .i64 (ks.headD 0)
def bi : TypeDesc → Bool
 | .struct _ | .array _ _ => true
 | _ => false
theorem ML {P : Program} {w : World} {t : TypeId} {d : TypeDesc} (h : P.underlying t = some d) :
  (isAgg t).run P w = .ok (bi d) w := by
 simp only [isAgg, Sem.run_bind, Ae h, Result.andThen_ok]
 cases d <;> rfl
theorem WB {P : Program} {d : Nat} {t : TypeId} {n : Nat} (h : O9 P d t = some n) : ∃ i, P.info? t = some i ∧ i.size = n := by
 cases d with
 | zero => simp [O9] at h
 | succ d =>
  simp only [O9] at h
  split at h
  ·split at h <;> simp at h; subst h; exact ⟨_, by assumption, by assumption⟩
  ·split at h
   ·simp at h
   ·split at h
    ·split at h
     ·simp only [Option.some.injEq] at h; subst h; exact ⟨_, by assumption, by assumption⟩
     ·simp at h
    ·simp at h
  ·split at h
   ·split at h
    ·simp only [Option.some.injEq] at h; subst h; exact ⟨_, by assumption, by assumption⟩
    ·simp at h
   ·simp at h
  ·simp at h
theorem FC {P : Program} {w : World} {d : Nat} {t : TypeId} {n : Nat} (h : O9 P d t = some n) (ks : List Int) (off : Nat) (ho : off + n ≤ ks.length) :
  (Go.part t (ks.map (Value.int .i64)).toArray off).run P w = .ok (ax P t ((ks.drop off).take n)) w := by
 obtain ⟨i, hi, hs⟩ := WB h
 have hex : ∀ m, m = n → (ks.map (Value.int .i64)).toArray.extract off (off + m) = (((ks.drop off).take n).map (Value.int .i64)).toArray := by
  intro m hm
  subst hm
  apply Array.ext'
  simp [List.extract_eq_take_drop, List.map_take, List.map_drop]
 cases d with
 | zero => simp [O9] at h
 | succ d =>
  simp only [O9] at h
  split at h
  ·rename_i hu _
   split at h <;> simp at h; subst h
   rename_i i' hi' hs'
   have h0 : off < ks.length := by omega
   simp [Go.part, ML hu, bi, ax, hu, h0, List.head?_drop, List.head?_take]
  ·rename_i fs _ hu _
   simp [Go.part, ML hu, bi, CO hi, ax, hu]
   rw [hs]
  ·rename_i len e _ hu _
   simp [Go.part, ML hu, bi, CO hi, ax, hu]
   rw [hs]
  ·simp at h
theorem jj (ks ls : List Int) (a b : Nat) (hk : ks.length = ls.length) :
  decide (ks.drop a = ls.drop a) = (decide ((ks.drop a).take b = (ls.drop a).take b) && decide (ks.drop (a + b) = ls.drop (a + b))) := by
 rw [Bool.eq_iff_iff]
 simp only [decide_eq_true_eq, Bool.and_eq_true]
 constructor
 ·intro h
  rw [h]
  refine ⟨rfl, ?_⟩
  rw [← List.drop_drop, ← List.drop_drop, h]
 ·rintro ⟨h1, h2⟩
  rw [← List.take_append_drop b (ks.drop a), ← List.take_append_drop b (ls.drop a), h1, List.drop_drop, List.drop_drop, h2]
theorem kp {P : Program} : ∀ (d : Nat) (t : TypeId) (n : Nat), O9 P d t = some n → ∀ (e : Nat), d ≤ e → ∀ (ks ls : List Int), ks.length = n → ls.length = n →
  ∀ (w : World), (Op.equalIn e t (ax P t ks) (ax P t ls)).run P w = .ok (decide (ks = ls)) w := by
 intro d
 induction d with
 | zero => intro t n h; simp [O9] at h
 | succ d ih =>
  intro t n h e he ks ls hk hl w
  obtain ⟨e, rfl⟩ : ∃ e', e = e' + 1 := ⟨e - 1, by omega⟩
  simp only [O9] at h
  split at h
  ·rename_i hu hi
   split at h <;> simp at h; subst h
   match ks, ls, hk, hl with
   | [a], [b], _, _ =>
    have := run_equalIn_int (P := P) w e t .i64 .i64 a b hu
    simp only [ax, hu, List.headD_cons]
    rw [this]
    simp [BEq.beq]
  ·rename_i fs i hu hi
   split at h
   ·simp at h
   ·rename_i hst
    split at h
    ·rename_i n' hf
     split at h
     ·simp only [Option.some.injEq] at h
      subst h
      have hF : P.fieldsOf t = fs := by simp [Program.fieldsOf, hu]
      have hag : ∀ l, ax P t l = .agg (l.map (Value.int .i64)).toArray := fun l => by simp [ax, hu]
      rw [hag, hag, run_equalIn_struct w e t _ _ (by rw [hF]; exact hu) (by simpa using hst), hF]
      have key : ∀ (fl : List Field) (acc : Nat), Ef (O9 P d) fl acc = some n' → acc ≤ n' ∧ (Op.eqFields e (ks.map (Value.int .i64)).toArray (ls.map (Value.int .i64)).toArray fl).run P w = .ok (decide (ks.drop acc = ls.drop acc)) w := by
       intro fl
       induction fl with
       | nil =>
        intro acc h
        simp only [Ef, Option.some.injEq] at h
        subst h
        refine ⟨Nat.le_refl _, ?_⟩
        rw [List.drop_of_length_le (by omega), List.drop_of_length_le (by omega)]
        rfl
       | cons f fl ihf =>
        intro acc h
        simp only [Ef] at h
        split at h
        ·simp at h
        ·rename_i hn
         split at h
         ·rename_i m hm
          have h1 := ihf _ h
          obtain ⟨hname, hoff⟩ : ¬ f.name = "_" ∧ f.offset = acc := by
           constructor
           ·exact fun h => hn (.inl h)
           ·exact Classical.byContradiction fun h => hn (.inr h)
          refine ⟨by omega, ?_⟩
          have p1 := FC (w := w) hm ks acc (by omega)
          have p2 := FC (w := w) hm ls acc (by omega)
          have q := ih f.type m hm e (by omega) ((ks.drop acc).take m) ((ls.drop acc).take m) (by simp; omega) (by simp; omega) w
          simp only [Op.eqFields]
          rw [if_pos hname, hoff]
          simp only [Sem.run_bind, p1, Result.andThen_ok, p2, q]
          rw [jj ks ls acc m (by omega)]
          cases hdec : decide ((ks.drop acc).take m = (ls.drop acc).take m)
          ·simp
          ·simp [h1.2]
         ·simp at h
      have := (key fs.toList 0 hf).2
      simpa using this
     ·simp at h
    ·simp at h
  ·rename_i len el i hu hi
   split at h
   ·rename_i m hm
    split at h
    ·simp only [Option.some.injEq] at h
     subst h
     obtain ⟨ie, hie, hse⟩ := WB hm
     have hag : ∀ l, ax P t l = .agg (l.map (Value.int .i64)).toArray := fun l => by simp [ax, hu]
     rw [hag, hag]
     simp only [Op.equalIn]
     simp only [Sem.run_bind, Ae hu, Result.andThen_ok, CO hie, hse]
     have key : ∀ (r k : Nat), k + r = len → (Sem.run P (forIn (List.range' k r) ((none : Option Bool), ()) fun i __s => do
        let a ← Go.part el (ks.map (Value.int .i64)).toArray (i * m)
        let b ← Go.part el (ls.map (Value.int .i64)).toArray (i * m)
        let c ← Op.equalIn e el a b
        if c = false then pure (ForInStep.done (some false, ())) else pure (ForInStep.yield (none, ()))) w) =
       .ok (if ks.drop (k * m) = ls.drop (k * m) then (none, ()) else (some false, ())) w := by
      intro r
      induction r with
      | zero =>
       intro k hkr
       have : k = len := by omega
       subst this
       rw [List.drop_of_length_le (by omega), List.drop_of_length_le (by omega)]
       simp
      | succ r ihr =>
       intro k hkr
       have hle : k * m + m ≤ len * m := by
        have : (k + 1) * m ≤ len * m := Nat.mul_le_mul_right m (by omega)
        rw [Nat.add_mul] at this; omega
       have p1 := FC (w := w) hm ks (k * m) (by omega)
       have p2 := FC (w := w) hm ls (k * m) (by omega)
       have q := ih el m hm e (by omega) ((ks.drop (k * m)).take m) ((ls.drop (k * m)).take m) (by simp; omega) (by simp; omega) w
       have hs := jj ks ls (k * m) m (by omega)
       rw [List.range'_succ, List.forIn_cons]
       simp only [Sem.run_bind, p1, Result.andThen_ok, p2, q]
       have ih2 := ihr (k + 1) (by omega)
       have hmul : (k + 1) * m = k * m + m := by rw [Nat.add_mul, Nat.one_mul]
       rw [hmul] at ih2
       cases hdec : decide ((ks.drop (k * m)).take m = (ls.drop (k * m)).take m)
       ·rw [hdec] at hs
        simp only [Bool.false_and, decide_eq_false_iff_not] at hs
        simp [hs]
       ·rw [hdec] at hs
        simp only [Bool.true_and] at hs
        simp only [Bool.true_eq_false, if_false, Sem.run_pure, Result.andThen_ok]
        rw [ih2]
        have : (ks.drop (k * m) = ls.drop (k * m)) ↔ (ks.drop (k * m + m) = ls.drop (k * m + m)) := by
         rw [← decide_eq_decide]; exact hs
        simp [this]
     have := key len 0 (by omega)
     simp only [Nat.zero_mul, List.drop_zero] at this
     simp
     rw [this]
     by_cases h : ks = ls <;> simp [h]
    ·simp at h
   ·simp at h
  ·simp at h
end Go.Lf
