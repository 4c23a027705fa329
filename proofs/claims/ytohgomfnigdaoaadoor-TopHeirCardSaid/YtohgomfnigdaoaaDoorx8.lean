/- A part of the proof. -/
import Derived.Test.YtohgomfnigdaoaaDoorx7
import Derived.Laws.StructEq
set_option linter.all false
namespace Go.Lf
open Go
theorem EX (t u : Nat) (s : BL) (e : xl) : (xl.set t s e).get u = if u = t then some s else e.get u := by
 induction e with
 | nil =>
  simp only [xl.set, xl.get]
  by_cases h : t = u
  ·subst h; simp
  ·rw [if_neg h, if_neg (fun h' => h h'.symm)]
 | cons p r ih =>
  obtain ⟨v, x⟩ := p
  simp only [xl.set]
  by_cases h : v = t
  ·subst h
   simp only [if_pos, xl.get]
   by_cases h : v = u
   ·subst h; simp
   ·rw [if_neg h, if_neg (fun h' => h h'.symm), if_neg h]
  ·rw [if_neg h]
   simp only [xl.get]
   by_cases h' : v = u
   ·subst h'; rw [if_pos rfl, if_neg h, if_pos rfl]
   ·rw [if_neg h', if_neg h', ih]
def iV (ts : Array Value) (d : Option Nat) (v : Value) : Array Value := match d with
 | some d => ts.setIfInBounds d v
 | none => ts
theorem pm (ts : Array Value) (d : Option Nat) (v : Value) : (iV ts d v).size = ts.size := by
 cases d <;> simp [iV]
theorem MI (ts : Array Value) (d : Nat) (v : Value) (h : d < ts.size) : (ts.setIfInBounds d v).getD d Go.undef = v := by
 simp [Array.getD, h]
theorem M1 (ts : Array Value) (d t : Nat) (v : Value) (h : t ≠ d) : (ts.setIfInBounds d v).getD t Go.undef = ts.getD t Go.undef := by
 simp only [Array.getD, Array.size_setIfInBounds]
 split
 ·rename_i hh
  simp only [Array.getInternal_eq_getElem]
  rw [Array.getElem_setIfInBounds (by simpa using hh), if_neg (fun h' => h h'.symm)]
 ·rfl
structure AV (T : Tables) (g : Gh) (w : World) (tss : List (Array Value)) (s : St) (ts : Array Value) : Prop where
 winv : Jl T g w s.ctr
 stack : HA T g w tss s.low
 env : ∀ t sl, s.env.get t = some sl → ET g w s.low.length t (ts.getD t Go.undef) sl
theorem xu.of_cold {g : Gh} {w : World} {p : Du} {v : Value} {x : LV} (h : x.isHot = false) : xu g w p v x := by
 cases x <;> simp_all [xu, LV.isHot]
theorem Gw.of_cold {g : Gh} {w : World} {j t : Nat} {v : Value} {x : LV} (hr : CB g v x) (h : x.cold = true) : Gw g w j t v x := by
 cases x with
 | tup cs =>
  cases hr with
  | tup vs _ hn hr =>
   refine ⟨vs, rfl, fun i c hc => xu.of_cold ?_⟩
   simp only [LV.cold, List.all_eq_true] at h
   simpa using h c (List.mem_of_getElem? hc)
 | hot z xs => simp [LV.cold] at h
 | _ => trivial
section
variable {T : Tables} {g : Gh} {w : World} {tss : List (Array Value)} {s s' : St} {ts : Array Value}
theorem AV.put (h : AV T g w tss s ts) {dst : Option Nat} {x : LV} {v : Value} (hp : s.put dst x = some s') (hd : ∀ d, dst = some d → d < ts.size)
  (hr : CB g v x) (ho : ∀ d, dst = some d → Gw g w s.low.length d v x) : AV T g w tss s' (iV ts dst v) := by
 cases dst with
 | none => simp only [St.put, Option.some.injEq] at hp; subst hp; exact h
 | some d =>
  have he : s' = { s with env := s.env.set d (.v x) } := by
   simp only [St.put] at hp
   split at hp <;> first | (simp at hp; done) | (simp only [Option.some.injEq] at hp; exact hp.symm)
  subst he
  refine ⟨h.winv, h.stack, fun t sl hs => ?_⟩
  simp only [EX] at hs
  by_cases ht : t = d
  ·subst ht
   rw [if_pos rfl] at hs
   simp only [Option.some.injEq] at hs
   subst hs
   rw [iV, MI _ _ _ (hd _ rfl)]
   exact .v hr (ho _ rfl)
  ·rw [if_neg ht] at hs
   rw [iV, M1 _ _ _ _ ht]
   exact h.env t sl hs
theorem AV.put_cold (h : AV T g w tss s ts) {dst : Option Nat} {x : LV} {v : Value} (hp : s.put dst x = some s') (hd : ∀ d, dst = some d → d < ts.size)
 (hr : CB g v x) (hc : x.cold = true) : AV T g w tss s' (iV ts dst v) := h.put hp hd hr fun _ _ => Gw.of_cold hr hc
theorem AV.move (h : AV T g w tss s ts) {g' : Gh} {w' : World} (hw : Jl T g' w' s.ctr) (hl : g.Le g') (hk : ∀ b p, g.ow b = some p → PR g w g' w' b) :
  AV T g' w' tss s ts :=
 ⟨hw, h.stack.keep hl fun b p hb _ => hk b p hb, fun t sl hs => (h.env t sl hs).keep hl fun b _ hb => hk b _ hb⟩
theorem V9 (x : LV) : x.cool.isHot = false := by cases x <;> rfl
theorem IU (x : LV) : x.copy.cold = true := by
 cases x <;> simp [LV.copy, LV.cold, V9]
theorem jK (x : LV) : x.copy.isHot = false := by cases x <;> rfl
theorem EF {x : LV} (h : x.cold = true) : x.isHot = false := by cases x <;> simp_all [LV.cold, LV.isHot]
theorem CB.cool {v : Value} {x : LV} (h : CB g v x) : CB g v x.cool := by
 cases h with
 | hot h => exact .d h
 | d h => exact .d h
 | full h => exact .full h
 | ptr h => exact .ptr h
 | mref h => exact .mref h
 | agg vs cs hn hh hr => exact .agg vs cs hn hh hr
 | tup vs cs hn hr => exact .tup vs cs hn hr
 | fn f va vb a b h1 h2 h3 h4 h5 h6 => exact .fn f va vb a b h1 h2 h3 h4 h5 h6
 | fptr b o off cs us hh hi hr => exact .fptr b o off cs us hh hi hr
 | yield h => exact .yield h
theorem CB.copy {v : Value} {x : LV} (h : CB g v x) : CB g v x.copy := by
 cases h with
 | hot h => exact .d h
 | tup vs cs hn hr =>
  refine .tup vs _ (by simpa using hn) fun i c hc => ?_
  simp only [List.getElem?_map, Option.map_eq_some_iff] at hc
  obtain ⟨y, hy, rfl⟩ := hc
  exact (hr i y hy).cool
 | d h => exact .d h
 | full h => exact .full h
 | ptr h => exact .ptr h
 | mref h => exact .mref h
 | agg vs cs hn hh hr => exact .agg vs cs hn hh hr
 | fn f va vb a b h1 h2 h3 h4 h5 h6 => exact .fn f va vb a b h1 h2 h3 h4 h5 h6
 | fptr b o off cs us hh hi hr => exact .fptr b o off cs us hh hi hr
 | yield h => exact .yield h
theorem ET.ref {j t : Nat} {v : Value} {sl : BL} (h : ET g w j t v sl) : CB g v (match sl with
  | .v x => x.copy
  | .box gn _ => .ptr j t gn 0
  | .mapo gn _ _ => .mref j t gn) := by
 cases h with
 | v h _ => exact h.copy
 | box hg _ _ _ _ _ _ => exact .ptr hg
 | mapo hg _ _ _ _ _ _ _ => exact .mref hg
theorem AV.slot (h : AV T g w tss s ts) (t : Nat) : CB g (ts.getD t Go.undef) (s.slot t) := by
 unfold St.slot
 cases he : s.env.get t with
 | none => exact .d (.bot _)
 | some sl =>
  have := (h.env t sl he).ref
  cases sl <;> exact this
theorem UX (s : St) (t : Nat) : (s.slot t).cold = true := by
 unfold St.slot
 split <;> first | exact IU _ | rfl
theorem DL.cv1 {im fm} {v : Value} {d : DV} (h : Lf.cv1 v = some d) : DL im fm v d := by
 unfold Lf.cv1 at h
 split at h <;> first
  | (simp only [Option.some.injEq] at h; subst h; first | exact .bool _ | exact .int _ | exact .nils | exact .nilmap | exact .nilfn)
  | (simp at h; done)
theorem DL.cvs {im fm} : ∀ {vs : List Value} {ds : List DV}, Lf.cvs vs = some ds → vs.length = ds.length ∧ ∀ (i : Nat) (c : DV), ds[i]? = some c → ∃ v, vs[i]? = some v ∧ DL im fm v c
 | [], ds, h => by
  simp only [Lf.cvs, Option.some.injEq] at h
  subst h
  exact ⟨rfl, fun i c hc => by simp at hc⟩
 | x :: r, ds, h => by
  simp only [Lf.cvs] at h
  split at h
  ·rename_i y ys hy hys
   simp only [Option.some.injEq] at h
   subst h
   have := DL.cvs (im := im) (fm := fm) hys
   refine ⟨by simp [this.1], fun i c hc => ?_⟩
   cases i with
   | zero =>
    simp only [List.getElem?_cons_zero, Option.some.injEq] at hc
    subst hc
    exact ⟨x, rfl, DL.cv1 hy⟩
   | succ i =>
    simp only [List.getElem?_cons_succ] at hc ⊢
    exact this.2 i c hc
  ·simp at h
theorem DL.cv {im fm} {v : Value} {d : DV} (h : Lf.cv v = some d) : DL im fm v d := by
 unfold Lf.cv at h
 split at h
 ·rename_i cs
  simp only [Option.map_eq_some_iff] at h
  obtain ⟨ds, hds, rfl⟩ := h
  have := DL.cvs (im := im) (fm := fm) hds
  refine .agg _ _ (by simpa using this.1) fun i c hc => ?_
  obtain ⟨v', hv', hr⟩ := this.2 i c hc
  simp only [Array.getElem?_toList] at hv'
  rw [Array.getD_eq_getD_getElem?, hv']
  exact hr
 ·exact DL.cv1 h
theorem AV.val (h : AV T g w tss s ts) {df : List Deferred} {xo : Operand} {x : yV} (hx : Aq xo = some x) : CB g ((⟨ts, df⟩ : Act).eval xo) (s.val T.LP x) := by
 cases xo with
 | tmp t => simp only [Aq, Option.some.injEq] at hx; subst hx; exact h.slot t
 | const v =>
  simp only [Aq, Option.map_eq_some_iff] at hx
  obtain ⟨d, hd, rfl⟩ := hx
  exact .d (DL.cv hd)
 | global n => simp only [Aq, Option.some.injEq] at hx; subst hx; exact .d (h.winv.globs n)
 | func f =>
  simp only [Aq, Option.some.injEq] at hx; subst hx
  exact .d (.fn f #[] #[] [] [] rfl rfl (by simp) (by simp))
theorem Ho (LP : A2) (s : St) (x : yV) : (s.val LP x).cold = true := by
 cases x with
 | tmp t => exact UX s t
 | _ => rfl
end
end Go.Lf
namespace Go.Lf
open Go
def Bt (T : Tables) (g : Gh) (w : World) (tss : List (Array Value)) (s s' : St) (ts : Array Value) (dst : Option Nat) (gi : Nat) (r : Result Next) : Prop :=
 ∃ g' w' v, (r = .ok (.value v) w' ∨ (r = .ok .skip w' ∧ v = Go.undef)) ∧ QV g w g' w' ∧ AV T g' w' tss s' (iV ts dst v) ∧
  ∀ n, n < s.ctr → n ≠ gi → g'.gb n = g.gb n
section
variable {T : Tables} {g : Gh} {w : World} {tss : List (Array Value)} {s s' : St} {ts : Array Value} {dst : Option Nat} {gi : Nat} {df : List Deferred} {C : AP}
theorem A6 {r : Result Next} {v : Value} {x : LV} (h : AV T g w tss s ts) (hd : ∀ d, dst = some d → d < ts.size) (hr : r = .ok (.value v) w)
  (hp : s.put dst x = some s') (hx : CB g v x) (hc : x.cold = true) : Bt T g w tss s s' ts dst gi r :=
 ⟨g, w, v, .inl hr, .refl g w, h.put_cold hp hd hx hc, fun _ _ _ => rfl⟩
theorem CB.bool {v : Value} {x : LV} {b : Bool} (h : CB g v x) (hb : F4 x = some b) : v = .bool b := by
 cases x <;> simp only [F4] at hb <;> try (simp at hb; done)
 rename_i y
 cases y <;> simp only [Option.some.injEq] at hb <;> try (simp at hb; done)
 subst hb
 cases h with
 | d h => cases h; rfl
theorem CB.int {v : Value} {x : LV} {n : Int} (h : CB g v x) (hb : Q8 x = some n) : v = .int .i64 n := by
 cases x <;> simp only [Q8] at hb <;> try (simp at hb; done)
 rename_i y
 cases y <;> simp only [Option.some.injEq] at hb <;> try (simp at hb; done)
 subst hb
 cases h with
 | d h => cases h; rfl
theorem CB.nat {v : Value} {x : LV} {n : Nat} (h : CB g v x) (hb : GQ x = some n) : v = .int .i64 n := by
 cases x <;> simp only [GQ] at hb <;> try (simp at hb; done)
 rename_i y
 cases y <;> simp only at hb <;> try (simp at hb; done)
 split at hb
 ·simp only [Option.some.injEq] at hb
  cases h with
  | d h => cases h; rw [← hb, Int.toNat_of_nonneg ‹_›]
 ·simp at hb
theorem kd {xo : Operand} {x : yV} {o : Oper} (h : AV T g w tss s ts) (hd : ∀ d, dst = some d → d < ts.size) (hx : Aq xo = some x)
  (ho : o.op = .move xo ∨ o.op = .assign xo) (he : s.put dst (s.val T.LP x) = some s') :
  Bt T g w tss s s' ts dst gi ((execOp (⟨ts, df⟩ : Act).eval o).run T.P w) :=
 A6 h hd (by rcases ho with ho | ho <;> simp only [execOp, ho] <;> rfl) he (h.val hx) (Ho _ _ _)
theorem qR {co ao bo : Operand} {c a b : yV} {o : Oper} (h : AV T g w tss s ts) (hd : ∀ d, dst = some d → d < ts.size) (hc : Aq co = some c)
  (ha : Aq ao = some a) (hb : Aq bo = some b) (ho : o.op = .pick co ao bo) (he : evalOp T.LP C gi dst (.pick c a b) s = some s') :
  Bt T g w tss s s' ts dst gi ((execOp (⟨ts, df⟩ : Act).eval o).run T.P w) := by
 simp only [evalOp] at he
 have hC := h.val (df := df) hc
 split at he
 ·rename_i hh
  refine A6 h hd ?_ he (h.val (df := df) ha) (Ho _ _ _)
  simp [execOp, ho, hC.bool hh, asBool]
 ·rename_i hh
  refine A6 h hd ?_ he (h.val (df := df) hb) (Ho _ _ _)
  simp [execOp, ho, hC.bool hh, asBool]
 ·simp at he
theorem sk {op : BinOp} {t u : TypeId} {xo yo : Operand} {x y : yV} {o : Oper} (h : AV T g w tss s ts) (hd : ∀ d, dst = some d → d < ts.size)
  (hx : Aq xo = some x) (hy : Aq yo = some y) (ho : o.op = .binOp op t xo yo u)
  (he : evalOp T.LP C gi dst (.bin op x y) s = some s') : Bt T g w tss s s' ts dst gi ((execOp (⟨ts, df⟩ : Act).eval o).run T.P w) := by
 simp only [evalOp] at he
 have hX := h.val (df := df) hx
 have hY := h.val (df := df) hy
 split at he
 ·rename_i a b ha hb
  have h1 := hX.int ha
  have h2 := hY.int hb
  split at he
  ·rename_i v hv
   have hrun : ∃ u, binOp op 0 (.int .i64 a) (.int .i64 b) = .pure u ∧ DL g.im g.fm u v := by
    unfold CC at hv
    split at hv <;> first
     | (simp only [Option.some.injEq] at hv; subst hv; exact ⟨_, by assumption, by first | exact .int _ | exact .bool _⟩)
     | (simp at hv; done)
   obtain ⟨u', hu, hr⟩ := hrun
   have heq : binOp op t (.int .i64 a) (.int .i64 b) = binOp op 0 (.int .i64 a) (.int .i64 b) := by cases op <;> rfl
   refine A6 h hd (v := u') ?_ he (.d hr) rfl
   simp only [execOp, ho, h1, h2]
   have hg : ∀ (xo yo : Operand), (eqGuard op t xo yo (.int .i64 a) (.int .i64 b)).run T.P w = .ok () w := by
    intro xo yo
    unfold eqGuard
    cases op <;> simp
   simp [hg, heq, hu]
  ·simp at he
 ·simp at he
theorem vB {op : UnOp} {t : TypeId} {xo : Operand} {x : yV} {o : Oper} (h : AV T g w tss s ts) (hd : ∀ d, dst = some d → d < ts.size)
  (hx : Aq xo = some x) (ho : o.op = .unOp op t xo)
  (he : evalOp T.LP C gi dst (.un op x) s = some s') : Bt T g w tss s s' ts dst gi ((execOp (⟨ts, df⟩ : Act).eval o).run T.P w) := by
 simp only [evalOp] at he
 have hX := h.val (df := df) hx
 have key : ∀ (v0 : Value) (v : DV), (⟨ts, df⟩ : Act).eval xo = v0 → CC (Op.unary op v0) = some v → s.put dst (.d v) = some s' →
   Bt T g w tss s s' ts dst gi ((execOp (⟨ts, df⟩ : Act).eval o).run T.P w) := by
  intro v0 v h0 hv hp
  have hrun : ∃ u, Op.unary op v0 = .pure u ∧ DL g.im g.fm u v := by
   unfold CC at hv
   split at hv <;> first
    | (simp only [Option.some.injEq] at hv; subst hv; exact ⟨_, by assumption, by first | exact .int _ | exact .bool _⟩)
    | (simp at hv; done)
  obtain ⟨u', hu, hr⟩ := hrun
  refine A6 h hd (v := u') ?_ hp (.d hr) rfl
  simp [execOp, ho, h0, hu]
 split at he
 ·rename_i a ha
  rw [ha] at hX
  split at he
  ·exact key _ _ (hX.int rfl) (by assumption) he
  ·simp at he
 ·rename_i a ha
  rw [ha] at hX
  split at he
  ·exact key _ _ (hX.bool rfl) (by assumption) he
  ·simp at he
 ·simp at he
theorem Ab {P : Program} {w : World} {t : TypeId} {d : TypeDesc} (h : P.underlying t = some d) : (underlying t).run P w = .ok d w := by
 simp [underlying, h]
theorem Ue {P : Program} {w : World} {t : TypeId} {i : TypeInfo} (h : P.info? t = some i) : (typeInfo t).run P w = .ok i w := by
 simp [typeInfo, h]
theorem C3 {P : Program} {w : World} {t : TypeId} {i : TypeInfo} (h : P.info? t = some i) : (sizeOf t).run P w = .ok i.size w := by
 simp [sizeOf, Ue h]
theorem Re {P : Program} {w : World} {t : TypeId} {i : TypeInfo} {v : Value} (h : P.info? t = some i) (hz : i.zero = some v) : (zeroValue t).run P w = .ok v w := by
 simp [zeroValue, Ue h, hz]
theorem VC {P : Program} {w : World} {t : TypeId} (hu : P.underlying t = some .bool) (a b : Bool) (d : Nat) :
  (Op.equalIn (d + 1) t (.bool a) (.bool b)).run P w = .ok (a == b) w := by
 simp only [Op.equalIn]
 simp [Ab hu]
theorem Pz {P : Program} {w : World} {t : TypeId} (hu : P.underlying t = some .bool) (a b : Bool) :
 (Op.equal t (.bool a) (.bool b)).run P w = .ok (a == b) w := VC hu a b 9999
theorem Sr {P : Program} {w : World} {t : TypeId} {x y : Value} {r : Bool} (h : (Op.equal t x y).run P w = .ok r w) (hb : binOp .eql t x y = (do pure (.bool (← Op.equal t x y)))) :
  (binOp .eql t x y).run P w = .ok (.bool r) w := by
 rw [hb]; simp [h]
theorem Q2 {P : Program} {w : World} {t : TypeId} {x y : Value} {r : Bool} (h : (Op.equal t x y).run P w = .ok r w) (hb : binOp .neq t x y = (do pure (.bool (!(← Op.equal t x y))))) :
  (binOp .neq t x y).run P w = .ok (.bool (!r)) w := by
 rw [hb]; simp [h]
theorem nQ {neg : Bool} {t u : TypeId} {xo yo : Operand} {x y : yV} {o : Oper} (h : AV T g w tss s ts) (hd : ∀ d, dst = some d → d < ts.size)
  (hx : Aq xo = some x) (hy : Aq yo = some y) (hu : T.P.underlying t = some .bool) (ho : o.op = .binOp (if neg then .neq else .eql) t xo yo u)
  (he : evalOp T.LP C gi dst (.eqb neg x y) s = some s') : Bt T g w tss s s' ts dst gi ((execOp (⟨ts, df⟩ : Act).eval o).run T.P w) := by
 simp only [evalOp] at he
 have hX := h.val (df := df) hx
 have hY := h.val (df := df) hy
 split at he
 ·rename_i a b ha hb
  refine A6 h hd (v := .bool (if neg then a != b else a == b)) ?_ he (.d (.bool _)) rfl
  have h1 := hX.bool ha
  have h2 := hY.bool hb
  have hg : ∀ (op : BinOp), (eqGuard op t xo yo (.bool a) (.bool b)).run T.P w = .ok () w := by
   intro op
   unfold eqGuard
   cases op <;> simp
  cases neg
  ·have := Sr (Pz (w := w) hu a b) rfl
   simp only [execOp, ho, h1, h2]
   simp [hg, this]
  ·have := Q2 (Pz (w := w) hu a b) rfl
   simp only [execOp, ho, h1, h2]
   simp [hg, this]
   cases a <;> cases b <;> rfl
 ·simp at he
end
end Go.Lf
namespace Go.Lf
open Go
def cA (P : Program) (t : TypeId) (ks : List Int) : Value := match P.underlying t with
 | some (.struct _) | some (.array _ _) => .agg (ks.map (.int .i64)).toArray
 | _ => .int .i64 (ks.headD 0)
def cR : TypeDesc → Bool
 | .struct _ | .array _ _ => true
 | _ => false
theorem OA {P : Program} {w : World} {t : TypeId} {d : TypeDesc} (h : P.underlying t = some d) :
  (isAgg t).run P w = .ok (cR d) w := by
 simp only [isAgg, Sem.run_bind, Ab h, Result.andThen_ok]
 cases d <;> rfl
theorem XF {P : Program} {d : Nat} {t : TypeId} {n : Nat} (h : Q4 P d t = some n) : ∃ i, P.info? t = some i ∧ i.size = n := by
 cases d with
 | zero => simp [Q4] at h
 | succ d =>
  simp only [Q4] at h
  split at h
  ·split at h <;> simp at h; subst h; exact ⟨_, by assumption, by assumption⟩
  ·split at h
   ·simp at h
   ·split at h
    ·split at h
     ·simp only [Option.some.injEq] at h; subst h; exact ⟨_, by assumption, by assumption⟩
     ·simp at h
    ·simp at h
  ·split at h
   ·split at h
    ·simp only [Option.some.injEq] at h; subst h; exact ⟨_, by assumption, by assumption⟩
    ·simp at h
   ·simp at h
  ·simp at h
theorem F2 {P : Program} {w : World} {d : Nat} {t : TypeId} {n : Nat} (h : Q4 P d t = some n) (ks : List Int) (off : Nat) (ho : off + n ≤ ks.length) :
  (Go.part t (ks.map (Value.int .i64)).toArray off).run P w = .ok (cA P t ((ks.drop off).take n)) w := by
 obtain ⟨i, hi, hs⟩ := XF h
 have hex : ∀ m, m = n → (ks.map (Value.int .i64)).toArray.extract off (off + m) = (((ks.drop off).take n).map (Value.int .i64)).toArray := by
  intro m hm
  subst hm
  apply Array.ext'
  simp [List.extract_eq_take_drop, List.map_take, List.map_drop]
 cases d with
 | zero => simp [Q4] at h
 | succ d =>
  simp only [Q4] at h
  split at h
  ·rename_i hu _
   split at h <;> simp at h; subst h
   rename_i i' hi' hs'
   have h0 : off < ks.length := by omega
   simp [Go.part, OA hu, cR, cA, hu, h0, List.head?_drop, List.head?_take]
  ·rename_i fs _ hu _
   simp [Go.part, OA hu, cR, C3 hi, cA, hu]
   rw [hs]
  ·rename_i len e _ hu _
   simp [Go.part, OA hu, cR, C3 hi, cA, hu]
   rw [hs]
  ·simp at h
theorem kr (ks ls : List Int) (a b : Nat) (hk : ks.length = ls.length) :
  decide (ks.drop a = ls.drop a) = (decide ((ks.drop a).take b = (ls.drop a).take b) && decide (ks.drop (a + b) = ls.drop (a + b))) := by
 rw [Bool.eq_iff_iff]
 simp only [decide_eq_true_eq, Bool.and_eq_true]
 constructor
 ·intro h
  rw [h]
  refine ⟨rfl, ?_⟩
  rw [← List.drop_drop, ← List.drop_drop, h]
 ·rintro ⟨h1, h2⟩
  rw [← List.take_append_drop b (ks.drop a), ← List.take_append_drop b (ls.drop a), h1, List.drop_drop, List.drop_drop, h2]
theorem mY {P : Program} : ∀ (d : Nat) (t : TypeId) (n : Nat), Q4 P d t = some n → ∀ (e : Nat), d ≤ e → ∀ (ks ls : List Int), ks.length = n → ls.length = n →
  ∀ (w : World), (Op.equalIn e t (cA P t ks) (cA P t ls)).run P w = .ok (decide (ks = ls)) w := by
 intro d
 induction d with
 | zero => intro t n h; simp [Q4] at h
 | succ d ih =>
  intro t n h e he ks ls hk hl w
  obtain ⟨e, rfl⟩ : ∃ e', e = e' + 1 := ⟨e - 1, by omega⟩
  simp only [Q4] at h
  split at h
  ·rename_i hu hi
   split at h <;> simp at h; subst h
   match ks, ls, hk, hl with
   | [a], [b], _, _ =>
    have := run_equalIn_int (P := P) w e t .i64 .i64 a b hu
    simp only [cA, hu, List.headD_cons]
    rw [this]
    simp [BEq.beq]
  ·rename_i fs i hu hi
   split at h
   ·simp at h
   ·rename_i hst
    split at h
    ·rename_i n' hf
     split at h
     ·simp only [Option.some.injEq] at h
      subst h
      have hF : P.fieldsOf t = fs := by simp [Program.fieldsOf, hu]
      have hag : ∀ l, cA P t l = .agg (l.map (Value.int .i64)).toArray := fun l => by simp [cA, hu]
      rw [hag, hag, run_equalIn_struct w e t _ _ (by rw [hF]; exact hu) (by simpa using hst), hF]
      have key : ∀ (fl : List Field) (acc : Nat), E0 (Q4 P d) fl acc = some n' → acc ≤ n' ∧ (Op.eqFields e (ks.map (Value.int .i64)).toArray (ls.map (Value.int .i64)).toArray fl).run P w = .ok (decide (ks.drop acc = ls.drop acc)) w := by
       intro fl
       induction fl with
       | nil =>
        intro acc h
        simp only [E0, Option.some.injEq] at h
        subst h
        refine ⟨Nat.le_refl _, ?_⟩
        rw [List.drop_of_length_le (by omega), List.drop_of_length_le (by omega)]
        rfl
       | cons f fl ihf =>
        intro acc h
        simp only [E0] at h
        split at h
        ·simp at h
        ·rename_i hn
         split at h
         ·rename_i m hm
          have h1 := ihf _ h
          obtain ⟨hname, hoff⟩ : ¬ f.name = "_" ∧ f.offset = acc := by
           constructor
           ·exact fun h => hn (.inl h)
           ·exact Classical.byContradiction fun h => hn (.inr h)
          refine ⟨by omega, ?_⟩
          have p1 := F2 (w := w) hm ks acc (by omega)
          have p2 := F2 (w := w) hm ls acc (by omega)
          have q := ih f.type m hm e (by omega) ((ks.drop acc).take m) ((ls.drop acc).take m) (by simp; omega) (by simp; omega) w
          simp only [Op.eqFields]
          rw [if_pos hname, hoff]
          simp only [Sem.run_bind, p1, Result.andThen_ok, p2, q]
          rw [kr ks ls acc m (by omega)]
          cases hdec : decide ((ks.drop acc).take m = (ls.drop acc).take m)
          ·simp
          ·simp [h1.2]
         ·simp at h
      have := (key fs.toList 0 hf).2
      simpa using this
     ·simp at h
    ·simp at h
  ·rename_i len el i hu hi
   split at h
   ·rename_i m hm
    split at h
    ·simp only [Option.some.injEq] at h
     subst h
     obtain ⟨ie, hie, hse⟩ := XF hm
     have hag : ∀ l, cA P t l = .agg (l.map (Value.int .i64)).toArray := fun l => by simp [cA, hu]
     rw [hag, hag]
     simp only [Op.equalIn]
     simp only [Sem.run_bind, Ab hu, Result.andThen_ok, C3 hie, hse]
     have key : ∀ (r k : Nat), k + r = len → (Sem.run P (forIn (List.range' k r) ((none : Option Bool), ()) fun i __s => do
        let a ← Go.part el (ks.map (Value.int .i64)).toArray (i * m)
        let b ← Go.part el (ls.map (Value.int .i64)).toArray (i * m)
        let c ← Op.equalIn e el a b
        if c = false then pure (ForInStep.done (some false, ())) else pure (ForInStep.yield (none, ()))) w) =
       .ok (if ks.drop (k * m) = ls.drop (k * m) then (none, ()) else (some false, ())) w := by
      intro r
      induction r with
      | zero =>
       intro k hkr
       have : k = len := by omega
       subst this
       rw [List.drop_of_length_le (by omega), List.drop_of_length_le (by omega)]
       simp
      | succ r ihr =>
       intro k hkr
       have hle : k * m + m ≤ len * m := by
        have : (k + 1) * m ≤ len * m := Nat.mul_le_mul_right m (by omega)
        rw [Nat.add_mul] at this; omega
       have p1 := F2 (w := w) hm ks (k * m) (by omega)
       have p2 := F2 (w := w) hm ls (k * m) (by omega)
       have q := ih el m hm e (by omega) ((ks.drop (k * m)).take m) ((ls.drop (k * m)).take m) (by simp; omega) (by simp; omega) w
       have hs := kr ks ls (k * m) m (by omega)
       rw [List.range'_succ, List.forIn_cons]
       simp only [Sem.run_bind, p1, Result.andThen_ok, p2, q]
       have ih2 := ihr (k + 1) (by omega)
       have hmul : (k + 1) * m = k * m + m := by rw [Nat.add_mul, Nat.one_mul]
       rw [hmul] at ih2
       cases hdec : decide ((ks.drop (k * m)).take m = (ls.drop (k * m)).take m)
       ·rw [hdec] at hs
        simp only [Bool.false_and, decide_eq_false_iff_not] at hs
        simp [hs]
       ·rw [hdec] at hs
        simp only [Bool.true_and] at hs
        simp only [Bool.true_eq_false, if_false, Sem.run_pure, Result.andThen_ok]
        rw [ih2]
        have : (ks.drop (k * m) = ls.drop (k * m)) ↔ (ks.drop (k * m + m) = ls.drop (k * m + m)) := by
         rw [← decide_eq_decide]; exact hs
        simp [this]
     have := key len 0 (by omega)
     simp only [Nat.zero_mul, List.drop_zero] at this
     simp
     rw [this]
     by_cases h : ks = ls <;> simp [h]
    ·simp at h
   ·simp at h
  ·simp at h
end Go.Lf
