/- A part of the proof. -/
import Derived.Test.YtbkliocalcihjaaDoorx14
import Derived.RangeFuncLeaves
import Derived.RangeFuncIn
set_option linter.all false
namespace Go.Lf
open Go
section
variable (LP : Aw)
def Dv {α : Type} (f : St → Option (α × St)) : Prop := ∀ s a s', f s = some (a, s') → s'.ctr = s.ctr
theorem Dv.bind {α β : Type} {f : St → Option (α × St)} {k : α → St → Option (β × St)} (hf : Dv f) (hk : ∀ a, Dv (k a)) : Dv (B5 f k) := by
 intro s b s' h
 unfold B5 at h
 split at h
 ·rename_i a s1 h1
  rw [hk a s1 b s' h, hf s a s1 h1]
 ·simp at h
theorem Dv.fail {α : Type} : Dv (fun _ => (none : Option (α × St))) := fun _ _ _ h => by simp at h
theorem Iz (d : Option Nat) (x : LV) : Dv (R7 d x) := by
 intro s a s' h
 simp only [R7, Option.map_eq_some_iff, Prod.mk.injEq, true_and, exists_eq_right] at h
 exact OP h
theorem Hg (x : Opd) : Dv (rdV LP x) := by
 intro s a s' h
 simp only [rdV, Option.some.injEq, Prod.mk.injEq] at h
 rw [h.2]
theorem Jl (x : Opd) : Dv (LS LP x) := by
 intro s a s' h
 simp only [LS, Option.some.injEq] at h
 have := congrArg Prod.snd h
 simp only at this
 rw [← this]
 unfold St.take
 cases x with
 | tmp t => simp only; split <;> rfl
 | _ => rfl
theorem Rl {α : Type} (root : Option (Option Nat)) (j t g off : Nat) (k : List LV → Option (α × List LV)) : Dv (L1 root j t g off k) := by
 intro s a s' h
 unfold L1 at h
 repeat' split at h
 all_goals first
  | (simp at h; done)
  | (simp only [Option.some.injEq, Prod.mk.injEq] at h; rw [← h.2]; exact fc)
theorem MJ {α : Type} (root : Option (Option Nat)) (j t g n : Nat) (k : List (List Int × LV) → Option (α × List (List Int × LV))) : Dv (LN root j t g n k) := by
 intro s a s' h
 unfold LN at h
 repeat' split at h
 all_goals first
  | (simp at h; done)
  | (simp only [Option.some.injEq, Prod.mk.injEq] at h; rw [← h.2]; exact fc)
theorem M4 {α : Type} (f : St → Option α) : Dv (fun s => (f s).map fun a => (a, s)) := by
 intro s a s' h
 simp only [Option.map_eq_some_iff, Prod.mk.injEq] at h
 obtain ⟨_, _, _, rfl⟩ := h; rfl
def zn.isStack : zn → Bool
 | .call _ _ (some _) => true
 | _ => false
theorem oa {C : AM} {g : Nat} {o : AD} (h : o.op.isStack = false) {s s' : St} (he : Ea LP C g o s = some s') : s'.ctr = s.ctr := by
 have of : ∀ {h : St → Option (Unit × St)}, Dv h → Ea LP C g o s = (h s).map (·.2) → s'.ctr = s.ctr := by
  intro h hs hq
  rw [hq] at he
  simp only [Option.map_eq_some_iff] at he
  obtain ⟨⟨u, s1⟩, h1, rfl⟩ := he
  exact hs s u s1 h1
 obtain ⟨dst, op, guard, root⟩ := o
 by_cases hv : op.isValue = true
 ·have hadd : op.addr = none := by
   cases op <;> first | rfl | simp [zn.isValue] at hv
  rw [Au LP hadd, Ru LP C g dst hv] at he
  simp only [Option.bind_eq_some_iff] at he
  obtain ⟨v, _, hp⟩ := he
  exact OP hp
 ·cases op
  case move x b =>
   cases b
   ·exact absurd rfl hv
   ·refine of (h := B5 (LS LP x) fun v => R7 dst v) (Dv.bind (Jl LP x) fun v => Iz _ _) ?_
    rw [Au LP rfl]; simp only [evalOp, B5, LS]; exact BS _ _ _
  case alloc zs =>
   rw [Au LP rfl] at he
   simp only [evalOp] at he
   split at he
   ·simp only [Option.some.injEq] at he; rw [← he]
   ·simp at he
  case box n x =>
   rw [Au LP rfl] at he
   simp only [evalOp] at he
   repeat' split at he
   all_goals first
    | (simp at he; done)
    | (simp only [Option.some.injEq] at he; rw [← he])
  case mkmap n =>
   rw [Au LP rfl] at he
   simp only [evalOp] at he
   split at he
   ·simp only [Option.some.injEq] at he; rw [← he]
   ·simp at he
  case mapset n m k v =>
   refine of ?_ (ck LP C g s)
   refine Dv.bind (Hg LP _) fun mv => Dv.bind (Hg LP _) fun kv => ?_
   unfold U3
   split
   ·exact Dv.bind (Jl LP _) fun xv => MJ _ _ _ _ _ _
   ·exact Dv.fail
  case mstore n m k v =>
   refine of ?_ (cp LP C g s)
   refine Dv.bind (Hg LP _) fun mv => Dv.bind (Hg LP _) fun kv => ?_
   unfold Va
   split
   ·exact Dv.bind (Jl LP _) fun xv => MJ _ _ _ _ _ _
   ·exact Dv.fail
  case mentry n m k z =>
   refine of ?_ (fp LP C g s)
   refine Dv.bind (Hg LP _) fun mv => Dv.bind (Hg LP _) fun kv => ?_
   unfold Vp
   split
   ·exact Dv.bind (MJ _ _ _ _ _ _) fun r => Iz _ _
   ·exact Dv.fail
  case lookup n m k ok z =>
   refine of ?_ (dD LP C g s)
   refine Dv.bind (Hg LP _) fun mv => Dv.bind (Hg LP _) fun kv => Dv.bind ?_ fun r => Iz _ _
   unfold az
   split
   ·exact Dv.fail
   ·split
    ·exact M4 _
    ·split
     ·exact M4 fun s => some _
     ·exact Dv.fail
    ·exact M4 fun s => some _
    ·exact Dv.fail
  case load k p b =>
   refine of ?_ (na LP C g s)
   refine Dv.bind (Hg LP _) fun pv => ?_
   unfold XT
   split
   ·split
    ·exact Iz _ _
    ·exact Dv.fail
   ·split
    ·exact Iz _ _
    ·exact Dv.fail
   ·refine Dv.bind (M4 _) fun cs => ?_
    split
    ·exact Dv.bind (Rl _ _ _ _ _ _) fun _ => Iz _ _
    ·split
     ·exact Iz _ _
     ·exact Dv.fail
   ·exact Dv.fail
  case store n p x =>
   refine of ?_ (kS LP C g s)
   refine Dv.bind (Hg LP _) fun pv => ?_
   unfold ez
   split
   ·refine Dv.bind (Jl LP _) fun xv => ?_
    split
    ·exact Rl _ _ _ _ _ _
    ·exact Dv.fail
   ·exact Dv.fail
  case append sz q x y =>
   rw [Au LP rfl] at he
   simp only [evalOp] at he
   split at he
   ·rw [OP he]; exact Jl LP x s _ _ rfl
   ·simp at he
  case extract i x take =>
   rw [Au LP rfl] at he
   simp only [evalOp] at he
   repeat' split at he
   all_goals first
    | (simp at he; done)
    | (rw [OP he])
  case call f as vis => cases vis <;> first | exact absurd rfl hv | simp [zn.isStack] at h
  case bad => rw [Au LP rfl] at he; simp [evalOp] at he
  all_goals exact absurd rfl hv
end
section
variable {T : Tables} {g : Gh} {w : World} {tss : List (Array Value)} {s s' : St} {ts : Array Value} {dst : Option Nat} {gi : Nat} {df : List Deferred} {C : AM}
variable {b : Frame} {k : List Item} {cs : List Frame} {ops : Array Oper} {i : Nat} {rest : List Nat}
theorem eQ {o : Oper} {ops : Array Oper} {gd : Option (Nat × Bool)} (h : Vi o ops = some gd) : (o.guard = none ∧ gd = none) ∨
  ∃ j want t, o.guard = some (j, want) ∧ (ops[j]?).bind (·.dst) = some t ∧ gd = some (t, want) := by
 unfold Vi at h
 split at h
 ·rename_i hg
  simp only [Option.some.injEq] at h
  exact .inl ⟨hg, h.symm⟩
 ·rename_i j want hg
  split at h
  ·rename_i t ht
   simp only [Option.some.injEq] at h
   exact .inr ⟨j, want, t, hg, ht, h.symm⟩
  ·simp at h
theorem iO {P : Program} {a : zw} {o : Oper} {ops : Array Oper} (hb : (I9 P a o ops).op ≠ .bad) : (I9 P a o ops).dst = o.dst ∧ jV P a o.op = some (I9 P a o ops).op ∧
  ((I9 P a o ops).op.mute = true → o.dst = none) ∧ ((o.guard = none ∧ (I9 P a o ops).guard = none) ∨
   ∃ j want t, o.guard = some (j, want) ∧ (ops[j]?).bind (·.dst) = some t ∧ (I9 P a o ops).guard = some (t, want)) := by
 unfold I9 at hb ⊢
 cases hg : Vi o ops with
 | none => simp only [hg] at hb; exact absurd rfl hb
 | some gd =>
  cases ht : jV P a o.op with
  | none => simp only [hg, ht] at hb; exact absurd rfl hb
  | some op =>
   simp only [hg, ht] at hb ⊢
   by_cases hm : (op.mute && o.dst.isSome || a.bad) = true
   ·rw [if_pos hm] at hb; exact absurd rfl hb
   ·rw [if_neg hm]
    refine ⟨rfl, rfl, fun h => ?_, eQ hg⟩
    have h' : op.mute = true := h
    rw [h'] at hm
    cases hd : o.dst with
    | none => rfl
    | some d => simp [hd] at hm
theorem m9 {P : Program} {a : zw} {op : Op} {f : Opd} {args : List Opd} {vis : Option (List Nat)} (h : jV P a op = some (.call f args vis)) :
  ∃ c fo, op = .call c ∧ c.callee = .value fo ∧ As fo = some f ∧ Ic c.args = some args := by
 cases op <;> simp only [jV, bind] at h
 case call c =>
  split at h
  ·rename_i fo hc
   simp only [Option.bind_eq_some_iff, Option.some.injEq, zn.call.injEq] at h
   obtain ⟨f', hf, args', hargs, rfl, rfl, _⟩ := h
   exact ⟨c, fo, rfl, hc, hf, hargs⟩
  all_goals (repeat' split at h)
  all_goals first
   | (simp [Option.bind_eq_some_iff] at h; done)
   | (simp only [Option.bind_eq_some_iff] at h; obtain ⟨_, _, _, _, _, _, h⟩ := h; split at h <;> simp [Option.bind_eq_some_iff] at h)
 all_goals (repeat' split at h)
 all_goals first
  | (simp [Option.bind_eq_some_iff] at h; done)
  | exact absurd (by assumption : _ = Op.call _) (by simp)
  | (simp only [Option.bind_eq_some_iff] at h; obtain ⟨_, _, h⟩ := h; (repeat' split at h); all_goals simp [Option.bind_eq_some_iff] at h)
  | (simp only [Option.bind_eq_some_iff] at h; obtain ⟨_, _, _, _, _, _, h⟩ := h; split at h <;> simp [Option.bind_eq_some_iff] at h)
  | skip
theorem mB {P : Program} {a : zw} {op : Op} {lo : zn} (h : jV P a op = some lo) : ∀ c, op ≠ .defer c := by
 intro c e
 subst e
 simp [jV] at h
theorem ZI (hC : Lr T C) (hR : KO T C) (hk : b.kind ≠ .early) (h : AV T g w tss s ts) {o : Oper} {a : zw} {lo : AD} (hoi : ops[i]? = some o) (hlod : lo.dst = o.dst) (htr : jV T.P a o.op = some lo.op)
  (hmute : lo.op.mute = true → o.dst = none) (hd : ∀ d, o.dst = some d → d < ts.size) (hgi : gi < s.ctr) (hg : g.gb gi = none) (hw : Region.wanted o (yielded ops ts) = true)
  (he : Ea T.LP C gi lo s = some s') :
  DL T.P (lone (b.atR ⟨ts, df⟩ (.inRegion ops (i :: rest) :: k)) cs w) (Ws T g w tss s s' ts o.dst gi fun ts' w' => lone (b.atR ⟨ts', df⟩ (.inRegion ops rest :: k)) cs w') := by
 have he0 := he
 unfold Ea at he
 split at he
 ·rw [hlod] at he
  by_cases hcall : lo.op.isCall = true
  ·
   cases hop : lo.op <;> rw [hop] at hcall <;> simp only [zn.isCall, Bool.false_eq_true] at hcall
   rename_i f args vis
   rw [hop] at htr he
   clear he0
   obtain ⟨c, fo, ho, hc, hf, hargs⟩ := m9 htr
   cases vis with
   | none => exact bn hC h hd hoi rfl hw ho hc hf hargs he
   | some vis => exact YY hC hR h hd hoi rfl hw ho hc hf hargs he
  ·have hca : lo.op.isCall = false := by simpa using hcall
   have hst : lo.op.isStack = false := by
    cases hop : lo.op <;> first | rfl | (rw [hop] at hca; simp [zn.isCall] at hca)
   have hctr := oa T.LP hst he0
   ·obtain ⟨g', w', v, hr, hkept, hinv, hgb⟩ := xB (df := df) (dst := o.dst) h hd hgi hg htr hmute hca he
    have hnd := mB htr
    have fin : Ws T g w tss s s' ts o.dst gi (fun ts' w' => lone (b.atR ⟨ts', df⟩ (.inRegion ops rest :: k)) cs w') (lone (b.atR ⟨gB ts o.dst v, df⟩ (.inRegion ops rest :: k)) cs w') :=
     ⟨g', w', v, rfl, hkept, hinv, hgb, by rw [hctr]; exact Nat.le_refl _⟩
    rcases hr with hr | ⟨hr, rfl⟩
    ·refine DL.step (lY hoi hw hnd hr) (DL.here ?_)
     rw [RU]; exact fin
    ·refine DL.step (pg hoi hw hnd hr) (DL.here ?_)
     rw [RU]; exact fin
 ·simp at he
end
end Go.Lf
namespace Go.Lf
open Go
section
variable {T : Tables} {g : Gh} {w : World} {tss : List (Array Value)} {s s' : St} {ts : Array Value} {dst : Option Nat} {gi : Nat} {df : List Deferred} {C : AM}
variable {b : Frame} {k : List Item} {cs : List Frame} {ops : Array Oper} {i : Nat} {rest : List Nat}
theorem jk (h : AV T g w tss s ts) {o : Oper} (hoi : ops[i]? = some o) (hd : ∀ d, o.dst = some d → d < ts.size) (hw : Region.wanted o (yielded ops ts) = false)
  (he : s.put o.dst (.d .undef) = some s') :
  DL T.P (lone (b.atR ⟨ts, df⟩ (.inRegion ops (i :: rest) :: k)) cs w) (Ws T g w tss s s' ts o.dst gi fun ts' w' => lone (b.atR ⟨ts', df⟩ (.inRegion ops rest :: k)) cs w') := by
 refine DL.step (stepR_op_skip (by rw [hoi]; simpa using hw)) (DL.here ?_)
 have : (ops[i]?).bind (·.dst) = o.dst := by rw [hoi]; rfl
 rw [this, RU]
 exact ⟨g, w, undef, rfl, .refl g w, h.put_cold he hd (.d .undef) rfl, fun _ _ _ => rfl, by rw [OP he]; exact Nat.le_refl _⟩
theorem eq {LP : Aw} {lo : AD} {s' : St} (hg : lo.guard = none) (hb : lo.op = .bad) : Ag LP C gi lo s ≠ some s' := by
 unfold Ag
 rw [hg, hb]
 simp [evalOp]
theorem kr {P : Program} {a : zw} {o : Oper} {ops : Array Oper} (hb : (I9 P a o ops).op = .bad) (hn : jV P a o.op ≠ some .bad) : (I9 P a o ops).guard = none := by
 unfold I9 at hb ⊢
 cases hg : Vi o ops with
 | none => rfl
 | some gd =>
  cases ht : jV P a o.op with
  | none => rfl
  | some op =>
   simp only [hg, ht] at hb ⊢
   by_cases hm : (op.mute && o.dst.isSome || a.bad) = true
   ·rw [if_pos hm]
   ·rw [if_neg hm] at hb
    have hb' : op = .bad := hb
    subst hb'
    exact absurd ht hn
theorem rS {P : Program} {a : zw} {op : Op} : jV P a op ≠ some .bad := by
 intro h
 cases op <;> simp only [jV, bind] at h
 all_goals (repeat' split at h)
 all_goals first
  | (simp [Option.bind_eq_some_iff] at h; done)
  | exact absurd (by assumption : _ = Op.call _) (by simp)
  | (simp only [Option.bind_eq_some_iff] at h; obtain ⟨_, _, h⟩ := h; (repeat' split at h); all_goals simp [Option.bind_eq_some_iff] at h)
  | (simp only [Option.bind_eq_some_iff] at h; obtain ⟨_, _, _, _, _, _, h⟩ := h; split at h <;> simp [Option.bind_eq_some_iff] at h)
theorem mr (h : AV T g w tss s ts) {t : Nat} {bb : Bool} (hs : s.slot t = .d (.bool bb)) : ts[t]? = some (.bool bb) := by
 have hr := h.slot t
 rw [hs] at hr
 have := hr.bool rfl
 unfold Array.getD at this
 split at this
 ·rename_i hlt
  rw [Array.getElem?_eq_getElem hlt]
  simpa using this
 ·simp [Go.undef] at this
theorem lC (h : AV T g w tss s ts) {t : Nat} (hs : s.slot t = .d .undef) : ts[t]? = none ∨ ts[t]? = some Go.undef := by
 have hr := h.slot t
 rw [hs] at hr
 have hv := hr.dinv
 unfold Array.getD at hv
 split at hv
 ·rename_i hlt
  right
  rw [Array.getElem?_eq_getElem hlt]
  simp only [Array.getInternal_eq_getElem] at hv
  generalize ts[t] = u at hv ⊢
  cases hv; rfl
 ·rename_i hlt
  left
  simp [hlt]
theorem uo (hC : Lr T C) (hR : KO T C) (hk : b.kind ≠ .early) (h : AV T g w tss s ts) {o : Oper} {a : zw} (hoi : ops[i]? = some o) (hd : ∀ d, o.dst = some d → d < ts.size)
  (hgi : gi < s.ctr) (hg : g.gb gi = none) (he : Ag T.LP C gi (I9 T.P a o ops) s = some s') :
  DL T.P (lone (b.atR ⟨ts, df⟩ (.inRegion ops (i :: rest) :: k)) cs w) (Ws T g w tss s s' ts o.dst gi fun ts' w' => lone (b.atR ⟨ts', df⟩ (.inRegion ops rest :: k)) cs w') := by
 have hb : (I9 T.P a o ops).op ≠ .bad := fun hb => eq (kr hb rS) hb he
 obtain ⟨h1, h2, h3, h4⟩ := iO hb
 unfold Ag at he
 rcases h4 with ⟨hg1, hg2⟩ | ⟨j, want, t, hg1, hj, hg2⟩
 ·rw [hg2] at he
  exact ZI hC hR hk h hoi h1 h2 h3 hd hgi hg (by simp [Region.wanted, hg1]) (by unfold Ea; exact he)
 ·rw [hg2] at he
  simp only at he
  split at he
  ·rename_i bb hs
   have hy : yielded ops ts j = some bb := by
    simp only [yielded, hj, Option.bind_some, mr h hs]
   split at he
   ·rename_i hbw
    subst hbw
    exact ZI hC hR hk h hoi h1 h2 h3 hd hgi hg (by simp [Region.wanted, hg1, hy]) (by unfold Ea; exact he)
   ·rename_i hbw
    rw [h1] at he
    exact jk h hoi hd (by simp [Region.wanted, hg1, hy, hbw]) he
  ·rename_i hs
   have hy : yielded ops ts j = none := by
    rcases lC h hs with e | e <;> simp [yielded, hj, e, Go.undef]
   rw [h1] at he
   exact jk h hoi hd (by simp [Region.wanted, hg1, hy]) he
  ·simp at he
theorem mF (P : Program) (r : Rn) (ops : Array Oper) {i : Nat} {o : Oper} (h : ops[i]? = some o) : (MI P r ops).getD i default = I9 P ((r.anns.lookup i).getD {}) o ops := by
 have hi : i < ops.size := (Array.getElem?_eq_some_iff.1 h).1
 unfold MI
 rw [List.getD_eq_getElem?_getD, List.getElem?_map, List.getElem?_range hi]
 simp only [Option.map_some, Option.getD_some]
 congr 1
 rw [Array.getD_eq_getD_getElem?, h]; rfl
theorem pF (hC : Lr T C) (hR : KO T C) (hk : b.kind ≠ .early) {r : Rn} {c : Nat} (hdst : ∀ (i : Nat) (o : Oper), ops[i]? = some o → ∀ d, o.dst = some d → d < ts.size) :
  ∀ (σ : List Nat) {g : Gh} {w : World} {s s' : St} {ts' : Array Value}, ts'.size = ts.size → AV T g w tss s ts' → σ.Nodup → (∀ i, i ∈ σ → i < ops.size ∧ g.gb (c + i) = none ∧ c + i < s.ctr) →
   DN T.LP C c (MI T.P r ops) σ s = some s' →
   DL T.P (lone (b.atR ⟨ts', df⟩ (.inRegion ops σ :: k)) cs w) fun m' => ∃ g' w' ts'', m' = lone (b.atR ⟨ts'', df⟩ (.inRegion ops [] :: k)) cs w' ∧ ts''.size = ts.size ∧ N7 g w g' w' ∧ AV T g' w' tss s' ts'' ∧
    (∀ n, n < s.ctr → (∀ i, i ∈ σ → n ≠ c + i) → g'.gb n = g.gb n) ∧ s.ctr ≤ s'.ctr
 | [], g, w, s, s', ts', hsz, h, _, _, he => by
  simp only [DN, Option.some.injEq] at he
  subst he
  exact DL.here ⟨g, w, ts', rfl, hsz, .refl g w, h, fun _ _ _ => rfl, Nat.le_refl _⟩
 | i :: σ, g, w, s, s', ts', hsz, h, hn, hσ, he => by
  simp only [DN] at he
  split at he
  ·rename_i s1 h1
   obtain ⟨hi, hgi, hci⟩ := hσ i (by simp)
   have hoi : ops[i]? = some ops[i] := Array.getElem?_eq_getElem hi
   rw [mF T.P r ops hoi] at h1
   refine (uo (k := k) (cs := cs) (df := df) (rest := σ) hC hR hk h hoi (fun d hd => by rw [hsz]; exact hdst i _ hoi d hd) hci hgi h1).bind fun m' hm' => ?_
   obtain ⟨g1, w1, v, rfl, hk1, hi1, hg1, hc1⟩ := hm'
   obtain ⟨hni, hn'⟩ := List.nodup_cons.1 hn
   refine (pF hC hR hk hdst σ (by rw [oH, hsz]) hi1 hn' (fun j hj => ?_) he).mono fun m' hm' => ?_
   ·obtain ⟨a1, a2, a3⟩ := hσ j (by simp [hj])
    have hne : c + j ≠ c + i := fun e => hni ((show j = i by omega) ▸ hj)
    exact ⟨a1, by rw [hg1 _ a3 hne]; exact a2, Nat.lt_of_lt_of_le a3 hc1⟩
   ·obtain ⟨g2, w2, ts2, e, hs2, hk2, hi2, hg2, hc2⟩ := hm'
    exact ⟨g2, w2, ts2, e, hs2, hk1.trans hk2, hi2, fun n hn hne => by
     rw [hg2 n (Nat.lt_of_lt_of_le hn hc1) fun j hj => hne j (by simp [hj]), hg1 n hn (hne i (by simp))], Nat.le_trans hc1 hc2⟩
  ·simp at he
theorem VV (LP : Aw) (C : AM) (c : Nat) (los : List AD) : ∀ (n i : Nat) (s : St), i + n = los.length →
  evalOps LP C (c + i) (los.drop i) s = DN LP C c los (List.range' i n) s
 | 0, i, s, h => by
  rw [List.drop_of_length_le (by omega)]
  rfl
 | n + 1, i, s, h => by
  have hi : i < los.length := by omega
  rw [List.drop_eq_getElem_cons hi, List.range'_succ]
  simp only [evalOps, DN, List.getD_eq_getElem?_getD, List.getElem?_eq_getElem hi, Option.getD_some]
  cases Ag LP C (c + i) los[i] s with
  | none => rfl
  | some s1 => exact VV LP C c los n (i + 1) s1 (by omega)
theorem aV (LP : Aw) (C : AM) (c : Nat) (los : List AD) (s : St) : evalOps LP C c los s = DN LP C c los (List.range los.length) s := by
 have := VV LP C c los los.length 0 s (by omega)
 rw [List.range_eq_range']
 simpa using this
theorem AV.congr (h : AV T g w tss s ts) {r : St} (he : ZP s r) : AV T g w tss r ts :=
 ⟨by rw [← he.ctr]; exact h.winv, by rw [← he.low]; exact h.stack, fun t sl hs => by rw [← he.low]; exact h.env t sl (by rw [he.env]; exact hs)⟩
end
end Go.Lf
namespace Go.Lf
open Go
section
variable {T : Tables} {g : Gh} {w : World} {tss : List (Array Value)} {s s' : St} {ts : Array Value} {df : List Deferred} {C : AM}
variable {b : Frame} {k : List Item} {cs : List Frame} {ops : Array Oper}
theorem AV.sameHeap (h : AV T g w tss s ts) {w0 : World} (hw0 : w0.heap = w.heap) : AV T g w0 tss s ts := by
 refine h.move (g' := g) (w' := w0) ⟨fun b i u hu => ?_, h.winv.one, fun b es hf => ?_, fun b p hb => ?_, fun n b hb => ?_, fun b d hb => ?_, h.winv.ctr, h.winv.globs⟩ (.refl g) (fun b p _ => ⟨by rw [hw0], fun _ => rfl, rfl, rfl⟩)
 ·rw [← h.winv.im b i u hu]; exact Ej (by rw [hw0])
 ·rw [hw0]; exact h.winv.fm b es hf
 ·rw [hw0]; exact h.winv.ow b p hb
 ·rw [hw0]; exact h.winv.gb n b hb
 ·rw [hw0]; exact h.winv.lp b d hb
theorem AV.more (h : AV T g w tss s ts) {c : Nat} (hc : s.ctr ≤ c) : AV T g w tss { s with ctr := c } ts :=
 ⟨⟨h.winv.im, h.winv.one, h.winv.fm, h.winv.ow, h.winv.gb, h.winv.lp, fun n hn => h.winv.ctr n (Nat.le_trans hc hn), h.winv.globs⟩, h.stack, h.env⟩
theorem AV.keepEnv (h : AV T g w tss s ts) (ks : List Nat) : AV T g w tss { s with env := s.env.keep ks } ts := by
 refine ⟨h.winv, h.stack, fun t sl hs => ?_⟩
 simp only [QO] at hs
 split at hs
 ·exact h.env t sl hs
 ·simp at hs
theorem ef (P : Program) (r : Rn) (ops : Array Oper) : (MI P r ops).length = ops.size := by simp [MI]
theorem lm (hC : Lr T C) (hR : KO T C) (hmix : T.P.follows .mixedOrders = true) (hk : b.kind ≠ .early) {r : Rn} {id n : Nat} {draw : Bool} (hdst : ∀ (i : Nat) (o : Oper), ops[i]? = some o → ∀ d, o.dst = some d → d < ts.size)
  (hdraw : draw = true → Yo (MI T.P r ops) ops = true) (h : AV T g w tss s ts) {jmp : zk} (he : AP T.LP C n (.ops (MI T.P r ops) r.keep) s = some (jmp, s')) :
  jmp = .normal ∧ DL T.P (lone (b.atR ⟨ts, df⟩ (.code (.region id ops draw) :: k)) cs w) fun m' => ∃ g' w' ts', m' = lone (b.atR ⟨ts', df⟩ k) cs w' ∧ ts'.size = ts.size ∧ N7 g w g' w' ∧ AV T g' w' tss s' ts' ∧
   (∀ n, n < s.ctr → g'.gb n = g.gb n) ∧ s.ctr ≤ s'.ctr := by
 simp only [AP] at he
 split at he
 ·rename_i s1 h1
  simp only [Option.some.injEq, Prod.mk.injEq] at he
  obtain ⟨rfl, rfl⟩ := he
  refine ⟨rfl, ?_⟩
  rw [aV] at h1
  have h0 : AV T g w tss { s with ctr := s.ctr + (MI T.P r ops).length } ts := h.more (Nat.le_add_right _ _)
  have hlen := ef T.P r ops
  have key : ∀ (σ : List Nat) (w0 : World), w0.heap = w.heap → w0.os = w.os → w0.tape = w.tape → w0.output = w.output → σ.Perm (List.range ops.size) →
    (∃ r', DN T.LP C s.ctr (MI T.P r ops) σ { s with ctr := s.ctr + (MI T.P r ops).length } = some r' ∧ ZP s1 r') →
    DL T.P (lone (b.atR ⟨ts, df⟩ (.inRegion ops σ :: k)) cs w0) fun m' => ∃ g' w' ts', m' = lone (b.atR ⟨ts', df⟩ k) cs w' ∧ ts'.size = ts.size ∧ N7 g w g' w' ∧
     AV T g' w' tss { s1 with env := s1.env.keep r.keep } ts' ∧ (∀ n, n < s.ctr → g'.gb n = g.gb n) ∧ s.ctr ≤ s1.ctr := by
   intro σ w0 hw0 ho0 ht0 hp0 hperm hev
   obtain ⟨r', hev, heq⟩ := hev
   have hin0 := h0.sameHeap hw0
   refine (pF (k := k) (cs := cs) (df := df) hC hR hk hdst σ rfl hin0 (hperm.nodup_iff.2 List.nodup_range) (fun i hi => ?_) hev).bind fun m' hm' => ?_
   ·have hi' : i < ops.size := List.mem_range.1 (hperm.subset hi)
    exact ⟨hi', h.winv.ctr _ (by omega), by simp only [hlen]; omega⟩
   ·obtain ⟨g', w', ts', rfl, hsz, hkept, hinv, hg, hc⟩ := hm'
    refine DL.step stepR_region_end (DL.here ⟨g', w', ts', rfl, hsz, ?_, ((hinv.congr heq.symm).keepEnv _), fun n hn => hg n (by simp only; omega) fun i _ => by omega, ?_⟩)
    ·exact ⟨hkept.le, fun b hb ho => by
      have := hkept.unch b (by rw [hw0]; exact hb) ho
      exact ⟨by rw [this.heap, hw0], this.im, this.fm, this.ow⟩, by rw [← hw0]; exact hkept.size, by rw [hkept.os, ho0], by rw [hkept.tape, ht0], by rw [hkept.output, hp0], fun b => by rw [hkept.frz]; unfold Qg; rw [hw0]⟩
    ·rw [heq.ctr]
     simp only at hc; omega
  rw [show List.range (MI T.P r ops).length = List.range ops.size by rw [hlen]] at h1
  cases draw with
  | false => exact DL.step stepR_region (key _ w rfl rfl rfl rfl (.refl _) ⟨s1, h1, .refl _⟩)
  | true =>
   refine DL.step stepR_region_draw ?_
   have hsch : Region.schedule (T.P.follows .mixedOrders) ops (w.tape w.drawn (.order b.fn id)) = Region.linearise .any ops (w.tape w.drawn (.order b.fn id)) := by
    simp [Region.schedule, hmix]
   rw [hsch]
   obtain ⟨hp, hap⟩ := mS (hdraw rfl) (w.tape w.drawn (.order b.fn id))
   refine key _ _ rfl rfl rfl rfl hp (O8 T.LP C s.ctr _ _ (List.range ops.size) hp (fun i j hi hj hne hl hs => ?_) List.nodup_range h1)
   refine hap i j ?_ (List.mem_range.1 hj) hs
   obtain ⟨x, y, hxy, hjy⟩ := hl
   have hsorted : (List.range ops.size).Pairwise (· < ·) := List.pairwise_lt_range
   rw [hxy] at hsorted
   exact (List.pairwise_cons.1 (List.pairwise_append.1 hsorted).2.1).1 j hjy
 ·simp at he
def aH (ds : List Nat) : List Deferred := ds.map fun d => { target := .collected d, args := #[] }
structure lU (g : Gh) (w : World) (b : Frame) (df : List Deferred) (base : Nat) : Prop where
 floor : base ≤ w.heap.size
 kind : (b.roundOf = none ∧ ∃ ds : List Nat, df = aH ds ∧ ds.Nodup ∧ ∀ d, d ∈ ds → base ≤ d ∧ d < w.heap.size ∧ g.ow d = none ∧ w.heap[d]? = some (.deferred (some []))) ∨
  (df = [] ∧ ∃ l d, b.roundOf = some l ∧ g.lp l = some d)
theorem lU.keep {base : Nat} (h : lU g w b df base) {g' : Gh} {w' : World} (hk : N7 g w g' w') : lU g' w' b df base := by
 refine ⟨Nat.le_trans h.floor hk.size, ?_⟩
 rcases h.kind with ⟨h1, ds, h2, h3, h4⟩ | ⟨h1, l, d, h2, h3⟩
 ·refine .inl ⟨h1, ds, h2, h3, fun d hd => ?_⟩
  obtain ⟨a1, a2, a3, a4⟩ := h4 d hd
  have hu := hk.unch d a2 a3
  exact ⟨a1, Nat.lt_of_lt_of_le a2 hk.size, by rw [hu.ow]; exact a3, by rw [hu.heap]; exact a4⟩
 ·exact .inr ⟨h1, l, d, h2, hk.le.lp _ _ h3⟩
def Q5 (b : Frame) (cs : List Frame) (k : List Item) (ts : Array Value) (df : List Deferred) (w : World) (m' : Machine) : zk → Prop
 | .normal => m' = lone (b.atR ⟨ts, df⟩ k) cs w
 | .exit id => ∃ k', m' = lone (b.atR ⟨ts, df⟩ (.code (.exit id) :: k')) cs w ∧ exitTo id k' = exitTo id k
 | .ret => ∃ k', m' = lone (b.atR ⟨ts, df⟩ (.code .ret :: k')) cs w
def M6 (T : Tables) (g : Gh) (w : World) (tss : List (Array Value)) (ctr : Nat) (s' : St) (size : Nat) (b : Frame) (base : Nat) (cs : List Frame) (k : List Item) (jmp : zk) (m' : Machine) : Prop :=
 ∃ g' w' ts' df', N7 g w g' w' ∧ AV T g' w' tss s' ts' ∧ ts'.size = size ∧ lU g' w' b df' base ∧ (∀ n, n < ctr → g'.gb n = g.gb n) ∧ ctr ≤ s'.ctr ∧ Q5 b cs k ts' df' w' m' jmp
end
end Go.Lf
namespace Go.Lf
open Go
section
variable {T : Tables} {g : Gh} {w : World} {tss : List (Array Value)} {s s' : St} {ts : Array Value} {df : List Deferred} {C : AM}
variable {b : Frame} {k : List Item} {cs : List Frame} {ops : Array Oper}
def Gh.loop (g : Gh) (l j gen D : Nat) : Gh :=
 { g with ow := fun c => if c = l then some (.loop j) else g.ow c, gb := fun n => if n = gen then some l else g.gb n, lp := fun c => if c = l then some D else g.lp c }
structure xa (w w1 : World) (l D : Nat) (rc : Loop) : Prop where
 old : ∀ b, b < w.heap.size → w1.heap[b]? = w.heap[b]?
 new : w.heap.size ≤ l
 here : w1.heap[l]? = some (.loop rc)
 defers : rc.defers = D
 size : w.heap.size ≤ w1.heap.size
 os : w1.os = w.os
 tape : w1.tape = w.tape
 output : w1.output = w.output
 frz : ∀ b, Qg w1 b = Qg w b
theorem uP (hW : I2 T g w s.ctr) {w1 : World} {l D : Nat} {rc : Loop} (hl : xa w w1 l D rc) (j : Nat) : g.Le (g.loop l j s.ctr D) :=
 ⟨fun _ _ _ h => h, fun _ _ h => h, fun n b h => by
  simp only [Gh.loop]
  split
  ·rename_i e; subst e; rw [hW.ctr _ (Nat.le_refl _)] at h; simp at h
  ·exact h, fun c d h => by
  simp only [Gh.loop]
  split
  ·rename_i e; subst e
   obtain ⟨r, hr, _⟩ := hW.lp _ _ h
   have := (Array.getElem?_eq_some_iff.1 hr).1
   have := hl.new
   omega
  ·exact h⟩
theorem oJ {w1 : World} {l D : Nat} {rc : Loop} (hl : xa w w1 l D rc) (j gen : Nat) {c : Nat} (hc : c < w.heap.size) : NQ g w (g.loop l j gen D) w1 c :=
 ⟨hl.old c hc, fun _ => rfl, rfl, by simp only [Gh.loop]; rw [if_neg (by have := hl.new; omega)]⟩
theorem oz (h : I2 T g w s.ctr) {w1 : World} {l D : Nat} {rc : Loop} (hl : xa w w1 l D rc) (j : Nat) : I2 T (g.loop l j s.ctr D) w1 (s.ctr + 1) where
 im b i u hu := by
  have := h.im b i u hu
  exact (Ej (a := ⟨b, i, none⟩) (hl.old _ (ij this))).trans this
 one := h.one
 fm b es hf := by
  obtain ⟨c, hc⟩ := h.fm b es hf
  exact ⟨c, by rw [hl.old _ (Array.getElem?_eq_some_iff.1 hc).1]; exact hc⟩
 ow b p hb := by
  simp only [Gh.loop] at hb
  split at hb
  ·rename_i e; subst e; exact (Array.getElem?_eq_some_iff.1 hl.here).1
  ·exact Nat.lt_of_lt_of_le (h.ow b p hb) hl.size
 gb n b hb := by
  simp only [Gh.loop] at hb
  split at hb
  ·simp only [Option.some.injEq] at hb; subst hb; exact (Array.getElem?_eq_some_iff.1 hl.here).1
  ·exact Nat.lt_of_lt_of_le (h.gb n b hb) hl.size
 lp c d hb := by
  simp only [Gh.loop] at hb
  split at hb
  ·rename_i e; subst e
   simp only [Option.some.injEq] at hb
   exact ⟨rc, hl.here, by rw [hl.defers, hb]⟩
  ·obtain ⟨r, hr, hd⟩ := h.lp c d hb
   exact ⟨r, by rw [hl.old _ (Array.getElem?_eq_some_iff.1 hr).1]; exact hr, hd⟩
 ctr n hn := by
  simp only [Gh.loop]
  rw [if_neg (by omega)]
  exact h.ctr n (by omega)
 globs n := h.globs n
theorem SO {P : Program} {fn : FuncId} {ps : Array Tmp} {as bd : Code} :
  (Instr.enterLoop fn ts ps as bd none).run P w = .ok (w.heap.size + 1, [{ target := .collected w.heap.size, args := #[] }])
   (World.push (World.push w (.deferred (some []))) (.loop { state := .ready, pending := none, fn, tmps := ts, params := ps, assign := as, body := bd, defers := w.heap.size })) := by
 simp [Instr.enterLoop, World.push]
 rfl
theorem OB {P : Program} {fn : FuncId} {ps : Array Tmp} {as bd : Code} {l0 : Nat} {r0 : Loop} (h : w.heap[l0]? = some (.loop r0)) :
  (Instr.enterLoop fn ts ps as bd (some l0)).run P w = .ok (w.heap.size, [])
   (World.push w (.loop { state := .ready, pending := none, fn, tmps := ts, params := ps, assign := as, body := bd, defers := r0.defers })) := by
 simp [Instr.enterLoop, Instr.getLoop, getObj, Sem.run, h, World.push, newObj, Sem.bind, bind, pure]
theorem kh {base : Nat} (hW : I2 T g w s.ctr) (hdf : lU g w b df base) {ps : Array Tmp} {as bd : Code} :
  ∃ l D mk w1, (Instr.enterLoop b.fn ts ps as bd b.roundOf).run T.P w = .ok (l, mk) w1 ∧
   xa w w1 l D { state := .ready, pending := none, fn := b.fn, tmps := ts, params := ps, assign := as, body := bd, defers := D } ∧
   ∀ g', N7 g w g' w1 → (∀ c, c ≠ l → g'.ow c = g.ow c) → lU g' w1 b (mk ++ df) base := by
 rcases hdf.kind with ⟨h1, ds, h2, h3, h4⟩ | ⟨h1, l0, d0, h2, h3⟩
 ·have hsz : (World.push (World.push w (.deferred (some []))) (.loop { state := .ready, pending := none, fn := b.fn, tmps := ts, params := ps, assign := as, body := bd, defers := w.heap.size })).heap.size = w.heap.size + 2 := by
   rw [Eb, Eb]
  have hold : ∀ c, c < w.heap.size → (World.push (World.push w (.deferred (some []))) (.loop { state := .ready, pending := none, fn := b.fn, tmps := ts, params := ps, assign := as, body := bd, defers := w.heap.size })).heap[c]? = w.heap[c]? := fun c hc => by
   rw [Hk (by rw [Eb]; omega), Hk hc]
  have hD : (World.push (World.push w (.deferred (some []))) (.loop { state := .ready, pending := none, fn := b.fn, tmps := ts, params := ps, assign := as, body := bd, defers := w.heap.size })).heap[w.heap.size]? = some (.deferred (some [])) := by
   rw [Hk (by rw [Eb]; omega), K0]
  refine ⟨w.heap.size + 1, w.heap.size, _, _, by rw [h1]; exact SO, ⟨hold, by omega, ?_, rfl, by rw [hsz]; omega, rfl, rfl, rfl, fun c => by rw [VK rfl, VK rfl]⟩, fun g' hk hgo => ⟨by rw [hsz]; have := hdf.floor; omega, .inl ⟨h1, w.heap.size :: ds, by rw [h2]; rfl, ?_, fun d hd => ?_⟩⟩⟩
  ·have := K0 (w := World.push w (.deferred (some []))) (o := .loop { state := .ready, pending := none, fn := b.fn, tmps := ts, params := ps, assign := as, body := bd, defers := w.heap.size })
   rw [Eb] at this
   exact this
  ·refine List.nodup_cons.2 ⟨fun hm => ?_, h3⟩
   have := (h4 _ hm).2.1
   omega
  ·rcases List.mem_cons.1 hd with rfl | hd
   ·refine ⟨hdf.floor, by rw [hsz]; omega, ?_, hD⟩
    rw [hgo _ (by omega)]
    exact hW.ow_fresh (Nat.le_refl _)
   ·obtain ⟨a1, a2, a3, a4⟩ := h4 d hd
    exact ⟨a1, by rw [hsz]; omega, by rw [hgo _ (by omega)]; exact a3, by rw [hold d a2]; exact a4⟩
 ·obtain ⟨r0, hr0, hrd⟩ := hW.lp _ _ h3
  refine ⟨w.heap.size, r0.defers, [], _, by rw [h2]; exact OB hr0, ⟨fun c hc => Hk hc, Nat.le_refl _, K0, rfl, by rw [Eb]; omega, rfl, rfl, rfl, fun c => VK rfl c⟩, fun g' hk _ => ⟨by rw [Eb]; have := hdf.floor; omega, .inr ⟨by simpa using h1, l0, d0, h2, hk.le.lp _ _ h3⟩⟩⟩
theorem hH {P : Program} {l : Nat} {r : Loop} (h : w.heap[l]? = some (.loop r)) (hs : r.state ≠ .busy) :
  (Instr.endLoop l).run P w = .ok r.pending (AE w l (.loop { r with state := .exhausted })) := by
 simp [Instr.endLoop, Instr.getLoop, getObj, setObj, Sem.run, h, hs, AE, Sem.bind, bind, pure]
theorem rr {r : KV} (hp : ∀ q, r.pending = some q → q ≠ .normal) : ((r.pending.bind zk.code).map Item.code).toList = match r.pending.getD .normal with
  | .normal => []
  | .exit id => [Item.code (.exit id)]
  | .ret => [Item.code .ret] := by
 cases hq : r.pending with
 | none => rfl
 | some q =>
  cases q with
  | normal => exact absurd rfl (hp _ hq)
  | exit id => rfl
  | ret => rfl
theorem uN (hC : Lr T C) {f : Func} (hf : T.P.funcs[b.fn]? = some f) (hsz : f.ntmps = ts.size) {fo : Operand} {fx : Opd} {ps : Array Tmp} {as bd : Code} {base n : Nat}
  (hfo : As fo = some fx) (hps : ∀ t, t ∈ ps.toList → t < f.ntmps) (has : GF T.P (T.ann b.fn) f.ntmps as = true) (hbd : GF T.P (T.ann b.fn) f.ntmps bd = true)
  (h : AV T g w tss s ts) (hdf : lU g w b df base) {jmp : zk}
  (he : AP T.LP C n (.rng fx ps.toList (Cc T.P (T.ann b.fn) as) (Cc T.P (T.ann b.fn) bd)) s = some (jmp, s')) :
  DL T.P (lone (b.atR ⟨ts, df⟩ (.code (.rangeFunc fo ps as bd) :: k)) cs w) (M6 T g w tss s.ctr s' ts.size b base cs k jmp) := by
 simp only [AP] at he
 have hF := h.val (df := df) hfo
 split at he
 ·rename_i f' a' b' ht
  obtain ⟨va, vb, hval, ra, rb⟩ := RI hF ht
  split at he
  ·rename_i v0 low' c' hcall
   split at he
   ·rename_i env r hlast
    split at he
    ·rename_i hcond
     obtain ⟨hlen, hgen, hrp⟩ := hcond
     simp only [Option.some.injEq, Prod.mk.injEq] at he
     obtain ⟨rfl, rfl⟩ := he
     obtain ⟨l, D, mk, w1, hent, hl, hdf1⟩ := kh (T := T) (ts := ts) (ps := ps) (as := as) (bd := bd) h.winv hdf
     obtain ⟨⟨fn', hfn', hname, hbody⟩, hgo⟩ := hC _ _ _ _ _ _ _ hcall
     let g1 := g.loop l s.low.length s.ctr D
     have hle : g.Le g1 := uP h.winv hl _
     have hW1 : I2 T g1 w1 (s.ctr + 1) := oz h.winv hl _
     have hun : ∀ c, c < w.heap.size → NQ g w g1 w1 c := fun c hc => oJ hl _ _ hc
     have hk1 : N7 g w g1 w1 := ⟨hle, fun c hc _ => hun c hc, hl.size, hl.os, hl.tape, hl.output, hl.frz⟩
     have hgl : g1.gb s.ctr = some l := by simp [g1, Gh.loop]
     have hS1 : Gk T g1 w1 (tss ++ [ts]) (s.low ++ [{ env := s.env, loop := some { gen := s.ctr, params := ps.toList, assign := Cc T.P (T.ann b.fn) as, body := Cc T.P (T.ann b.fn) bd, ready := true, pending := none } }]) := by
      refine ⟨by simp [h.stack.len], fun j ts' fr h1 h2 => ?_⟩
      by_cases hj : j < s.low.length
      ·rw [List.getElem?_append_left hj] at h2
       rw [List.getElem?_append_left (by rw [h.stack.len]; exact hj)] at h1
       exact (h.stack.fr j ts' fr h1 h2).keep hle fun c p hc _ => hun c (h.winv.ow c p hc)
      ·have hl2 := (List.getElem?_eq_some_iff.1 h2).1
       simp only [List.length_append, List.length_singleton] at hl2
       obtain rfl : j = s.low.length := by omega
       have h2' := h2
       simp only [List.getElem?_append_right (Nat.le_refl _), Nat.sub_self, List.getElem?_cons_zero, Option.some.injEq] at h2'
       have h1' : ts' = ts := by
        rw [← h.stack.len] at h1; simpa using h1.symm
       subst h2'; subst h1'
       refine ⟨fun t sl hs => (h.env t sl hs).keep hle fun c i hc => hun c (h.winv.ow c _ hc), fun r0 hr0 => ?_⟩
       simp only [Option.some.injEq] at hr0
       subst hr0
       refine ⟨l, b.fn, ps, as, bd, D, hgl, by simp [g1, Gh.loop], by simp [g1, Gh.loop], ?_, rfl, fun q hq => by simp at hq, f, hf, hsz, has, hbd, hps, rfl, rfl⟩
       exact hl.here
     have hargs : Dk g1 (va ++ #[.func (.yield l) #[] #[]] ++ vb) (a' ++ [.yield s.low.length s.ctr] ++ b') := by
      have up : ∀ {vs : Array Value} {xs : List LV}, Dk g vs xs → Dk g1 vs xs := fun h => ⟨h.size, fun i x hx => ⟨(h.rep i x hx).1.mono hle, (h.rep i x hx).2⟩⟩
      refine ((up ra).append ⟨rfl, fun i x hx => ?_⟩).append (up rb)
      cases i with
      | zero => simp only [List.getElem?_cons_zero, Option.some.injEq] at hx; subst hx; exact ⟨.yield hgl, rfl⟩
      | succ i => simp at hx
     have hres : (resolve (⟨ts, df⟩ : Act).eval (rangeCall fo l) 0).run T.P w1 = .ok { target := .fn (.func f') vb, args := va ++ #[.func (.yield l) #[] #[]] } w1 := by
      simp only [resolve, rangeCall, hval, Deferred.ofValue]
      simp [Act.eval]
     have hinv : (invoke (.fn (.func f') vb) (va ++ #[.func (.yield l) #[] #[]])).run T.P w1 = .ok (.enter f' (va ++ #[.func (.yield l) #[] #[]] ++ vb)) w1 := by
      simp only [invoke, SJ hfn' hname hbody]
     refine DL.step (stepR_rangeFunc hent hres hinv) ((hgo g1 w1 _ _ hW1 hS1 hargs _).bind fun m' hm' => ?_)
     obtain ⟨fr', w2, v2, g2, rfl, hff, hleave, _, _, ha⟩ := hm'
     refine DL.step (step_leave_returned hleave) ?_
     rw [finish_atR_inRangeFunc]
     have hlast' : low'[s.low.length]? = some { env, loop := some r } := by
      rw [List.getLast?_eq_getElem?, hlen] at hlast
      simpa using hlast
     have htop : (tss ++ [ts])[s.low.length]? = some ts := by rw [← h.stack.len]; simp
     have hfr := ha.stack.fr s.low.length ts _ htop hlast'
     obtain ⟨l2, fn2, ps2, as2, bd2, df2, e1, e2, e3, e4, e5, e6, _⟩ := hfr.loop r rfl
     have hl2 : l2 = l := by
      rw [hgen] at e1
      have := ha.kept.le.gb _ _ hgl
      rw [this] at e1
      simpa using e1.symm
     subst hl2
     have hst : (Cb r.ready r.pending) ≠ LoopState.busy := by
      unfold Cb
      rcases hrp with h1 | h1
      ·simp [h1]
      ·cases hq : r.pending with
       | none => rw [hq] at h1; simp at h1
       | some q => by_cases hr : r.ready = true <;> simp [hr]
     refine DL.step (stepR_endRangeFunc (hH e4 hst)) (DL.here ?_)
     have hlw2 : l2 < w2.heap.size := (Array.getElem?_eq_some_iff.1 e4).1
     have hlnew := hl.new
     have hset : ∀ c, c ≠ l2 → (AE w2 l2 (.loop { ({ state := Cb r.ready r.pending, pending := r.pending.bind zk.code, fn := fn2, tmps := ts, params := ps2, assign := as2, body := bd2, defers := df2 } : Loop) with state := .exhausted })).heap[c]? = w2.heap[c]? := fun c hc => by
      rw [Az _ _ _ _ hlw2, if_neg hc]
     have hW3 : I2 T g2 (AE w2 l2 (.loop { ({ state := Cb r.ready r.pending, pending := r.pending.bind zk.code, fn := fn2, tmps := ts, params := ps2, assign := as2, body := bd2, defers := df2 } : Loop) with state := .exhausted })) c' := by
      refine ⟨fun c i u hu => ?_, ha.winv.one, fun c es hc => ?_, fun c p hc => by simpa [AE] using ha.winv.ow c p hc, fun m c hc => by simpa [AE] using ha.winv.gb m c hc, fun c d hc => ?_, ha.winv.ctr, ha.winv.globs⟩
      ·have hcell := ha.winv.im c i u hu
       have hne : c ≠ l2 := fun e => by subst e; simp [World.cell?, e4] at hcell
       exact (Ej (a := ⟨c, i, none⟩) (hset c hne)).trans hcell
      ·obtain ⟨cl, hcl⟩ := ha.winv.fm c es hc
       have hne : c ≠ l2 := fun e => by subst e; rw [e4] at hcl; simp at hcl
       exact ⟨cl, by rw [hset c hne]; exact hcl⟩
      ·obtain ⟨r3, hr3, hd3⟩ := ha.winv.lp c d hc
       by_cases hcl : c = l2
       ·subst hcl
        rw [e4] at hr3
        simp only [Option.some.injEq, Obj.loop.injEq] at hr3
        refine ⟨_, by rw [Az _ _ _ _ hlw2, if_pos rfl], ?_⟩
        rw [← hd3, ← hr3]
       ·exact ⟨r3, by rw [hset c hcl]; exact hr3, hd3⟩
     have hun2 : ∀ c p, g2.ow c = some p → p ≠ .loop s.low.length → NQ g2 w2 g2 (AE w2 l2 (.loop { ({ state := Cb r.ready r.pending, pending := r.pending.bind zk.code, fn := fn2, tmps := ts, params := ps2, assign := as2, body := bd2, defers := df2 } : Loop) with state := .exhausted })) c := fun c p hc hp =>
      ⟨hset c fun e => by subst e; rw [e3] at hc; simp only [Option.some.injEq] at hc; exact hp hc.symm, fun _ => rfl, rfl, rfl⟩
     have hlen' : (low'.dropLast).length = s.low.length := by simp [hlen]
     have hkall : N7 g w g2 (AE w2 l2 (.loop { ({ state := Cb r.ready r.pending, pending := r.pending.bind zk.code, fn := fn2, tmps := ts, params := ps2, assign := as2, body := bd2, defers := df2 } : Loop) with state := .exhausted })) := by
      have hk := hk1.trans ha.kept
      exact ⟨hk.le, fun c hc ho => by
       have := hk.unch c hc ho
       exact ⟨by rw [hset c (by omega)]; exact this.heap, this.im, this.fm, this.ow⟩, by simpa [AE] using hk.size, hk.os, hk.tape, hk.output, fun c => by
       rw [← hk.frz c]
       unfold Qg
       by_cases hc : c = l2
       ·subst hc; rw [Az _ _ _ _ hlw2, if_pos rfl, e4]; rfl
       ·rw [hset c hc]⟩
     have hdfk : lU g2 (AE w2 l2 (.loop { ({ state := Cb r.ready r.pending, pending := r.pending.bind zk.code, fn := fn2, tmps := ts, params := ps2, assign := as2, body := bd2, defers := df2 } : Loop) with state := .exhausted })) b (mk ++ df) base := by
      have hd1 : lU g1 w1 b (mk ++ df) base := hdf1 g1 hk1 fun c hc => by simp [g1, Gh.loop, hc]
      have hd2 := hd1.keep ha.kept
      refine ⟨by simpa [AE] using hd2.floor, ?_⟩
      rcases hd2.kind with ⟨q1, ds, q2, q3, q4⟩ | q
      ·refine .inl ⟨q1, ds, q2, q3, fun d hd => ?_⟩
       obtain ⟨z1, z2, z3, z4⟩ := q4 d hd
       have hne : d ≠ l2 := fun e => by subst e; rw [e4] at z4; simp at z4
       exact ⟨z1, by simpa [AE] using z2, z3, by rw [hset d hne]; exact z4⟩
      ·exact .inr q
     refine ⟨g2, _, ts, mk ++ df, hkall, ⟨hW3, ⟨by rw [hlen', h.stack.len], fun j ts' fr3 h1 h2 => ?_⟩, fun t sl hs => ?_⟩, rfl, hdfk, fun m hm => ?_, ?_, ?_⟩
     ·have hj : j < s.low.length := by rw [← hlen']; exact (List.getElem?_eq_some_iff.1 h2).1
      have h2' : low'[j]? = some fr3 := by
       rw [List.getElem?_dropLast] at h2
       split at h2
       ·exact h2
       ·simp at h2
      have h1' : (tss ++ [ts])[j]? = some ts' := by rw [List.getElem?_append_left (by rw [h.stack.len]; exact hj)]; exact h1
      exact (ha.stack.fr j ts' fr3 h1' h2').keep (.refl g2) fun c p hc hp => hun2 c p hc fun e => by subst e; simp only [DR.level] at hp; omega
     ·simp only [hlen']
      exact (hfr.env t sl hs).keep (.refl g2) fun c i hc => hun2 c _ hc (by simp)
     ·rw [ha.gens m (by omega)]
      simp only [g1, Gh.loop]
      rw [if_neg (by omega)]
     ·have := ha.mono
      simp only; omega
     ·rw [rr e6]
      cases hj : r.pending.getD .normal with
      | normal => rfl
      | exit id => exact ⟨k, rfl, rfl⟩
      | ret => exact ⟨k, rfl⟩
    ·simp at he
   ·simp at he
  ·simp at he
 ·simp at he
end
end Go.Lf
