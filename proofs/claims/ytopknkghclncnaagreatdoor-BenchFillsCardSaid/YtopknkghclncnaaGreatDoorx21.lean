/- A part of the proof. -/
import Derived.Test.YtopknkghclncnaaGreatDoorx20
set_option linter.all false
namespace Go.Lf
open Go
section
variable (LP : BA)
def ES {α : Type} (f : St → Option (α × St)) : Prop := ∀ s a s', f s = some (a, s') → s'.ctr = s.ctr
theorem ES.bind {α β : Type} {f : St → Option (α × St)} {k : α → St → Option (β × St)} (hf : ES f) (hk : ∀ a, ES (k a)) : ES (CN f k) := by
 intro s b s' h
 unfold CN at h
 split at h
 ·rename_i a s1 h1
  rw [hk a s1 b s' h, hf s a s1 h1]
 ·simp at h
theorem ES.fail {α : Type} : ES (fun _ => (none : Option (α × St))) := fun _ _ _ h => by simp at h
theorem J1 (d : Option Nat) (x : LV) : ES (VH d x) := by
 intro s a s' h
 simp only [VH, Option.map_eq_some_iff, Prod.mk.injEq, true_and, exists_eq_right] at h
 exact RV h
theorem Is (x : Opd) : ES (rdV LP x) := by
 intro s a s' h
 simp only [rdV, Option.some.injEq, Prod.mk.injEq] at h
 rw [h.2]
theorem L1 (x : Opd) : ES (OD LP x) := by
 intro s a s' h
 simp only [OD, Option.some.injEq] at h
 have := congrArg Prod.snd h
 simp only at this
 rw [← this]
 unfold St.take
 cases x with
 | tmp t => simp only; split <;> rfl
 | _ => rfl
theorem VF {α : Type} (root : Option (Option Nat)) (j t g off : Nat) (k : List LV → Option (α × List LV)) : ES (PP root j t g off k) := by
 intro s a s' h
 unfold PP at h
 repeat' split at h
 all_goals first
  | (simp at h; done)
  | (simp only [Option.some.injEq, Prod.mk.injEq] at h; rw [← h.2]; exact jq)
theorem PW {α : Type} (root : Option (Option Nat)) (j t g n : Nat) (k : List (List Int × LV) → Option (α × List (List Int × LV))) : ES (Ny root j t g n k) := by
 intro s a s' h
 unfold Ny at h
 repeat' split at h
 all_goals first
  | (simp at h; done)
  | (simp only [Option.some.injEq, Prod.mk.injEq] at h; rw [← h.2]; exact jq)
theorem P0 {α : Type} (f : St → Option α) : ES (fun s => (f s).map fun a => (a, s)) := by
 intro s a s' h
 simp only [Option.map_eq_some_iff, Prod.mk.injEq] at h
 obtain ⟨_, _, _, rfl⟩ := h; rfl
def LOp.isStack : LOp → Bool
 | .call _ _ (some _) => true
 | _ => false
theorem sV {C : AV} {g : Nat} {o : AI} (h : o.op.isStack = false) {s s' : St} (he : E9 LP C g o s = some s') : s'.ctr = s.ctr := by
 have of : ∀ {h : St → Option (Unit × St)}, ES h → E9 LP C g o s = (h s).map (·.2) → s'.ctr = s.ctr := by
  intro h hs hq
  rw [hq] at he
  simp only [Option.map_eq_some_iff] at he
  obtain ⟨⟨u, s1⟩, h1, rfl⟩ := he
  exact hs s u s1 h1
 obtain ⟨dst, op, guard, root⟩ := o
 by_cases hv : op.isValue = true
 ·have hadd : op.addr = none := by
   cases op <;> first | rfl | simp [LOp.isValue] at hv
  rw [A3 LP hadd, VY LP C g dst hv] at he
  simp only [Option.bind_eq_some_iff] at he
  obtain ⟨v, _, hp⟩ := he
  exact RV hp
 ·cases op
  case move x b =>
   cases b
   ·exact absurd rfl hv
   ·refine of (h := CN (OD LP x) fun v => VH dst v) (ES.bind (L1 LP x) fun v => J1 _ _) ?_
    rw [A3 LP rfl]; simp only [evalOp, CN, OD]; exact BZ _ _ _
  case alloc zs =>
   rw [A3 LP rfl] at he
   simp only [evalOp] at he
   split at he
   ·simp only [Option.some.injEq] at he; rw [← he]
   ·simp at he
  case box n x =>
   rw [A3 LP rfl] at he
   simp only [evalOp] at he
   repeat' split at he
   all_goals first
    | (simp at he; done)
    | (simp only [Option.some.injEq] at he; rw [← he])
  case mkmap n =>
   rw [A3 LP rfl] at he
   simp only [evalOp] at he
   split at he
   ·simp only [Option.some.injEq] at he; rw [← he]
   ·simp at he
  case mapset n m k v =>
   refine of ?_ (lL LP C g s)
   refine ES.bind (Is LP _) fun mv => ES.bind (Is LP _) fun kv => ?_
   unfold Zi
   split
   ·exact ES.bind (L1 LP _) fun xv => PW _ _ _ _ _ _
   ·exact ES.fail
  case mstore n m k v =>
   refine of ?_ (lP LP C g s)
   refine ES.bind (Is LP _) fun mv => ES.bind (Is LP _) fun kv => ?_
   unfold Yx
   split
   ·exact ES.bind (L1 LP _) fun xv => PW _ _ _ _ _ _
   ·exact ES.fail
  case mentry n m k z =>
   refine of ?_ (jg LP C g s)
   refine ES.bind (Is LP _) fun mv => ES.bind (Is LP _) fun kv => ?_
   unfold ZS
   split
   ·exact ES.bind (PW _ _ _ _ _ _) fun r => J1 _ _
   ·exact ES.fail
  case lookup n m k ok z =>
   refine of ?_ (iO LP C g s)
   refine ES.bind (Is LP _) fun mv => ES.bind (Is LP _) fun kv => ES.bind ?_ fun r => J1 _ _
   unfold fP
   split
   ·exact ES.fail
   ·split
    ·exact P0 _
    ·split
     ·exact P0 fun s => some _
     ·exact ES.fail
    ·exact P0 fun s => some _
    ·exact ES.fail
  case load k p b =>
   refine of ?_ (uK LP C g s)
   refine ES.bind (Is LP _) fun pv => ?_
   unfold aN
   split
   ·split
    ·exact J1 _ _
    ·exact ES.fail
   ·split
    ·exact J1 _ _
    ·exact ES.fail
   ·refine ES.bind (P0 _) fun cs => ?_
    split
    ·exact ES.bind (VF _ _ _ _ _ _) fun _ => J1 _ _
    ·split
     ·exact J1 _ _
     ·exact ES.fail
   ·exact ES.fail
  case store n p x =>
   refine of ?_ (pq LP C g s)
   refine ES.bind (Is LP _) fun pv => ?_
   unfold kw
   split
   ·refine ES.bind (L1 LP _) fun xv => ?_
    split
    ·exact VF _ _ _ _ _ _
    ·exact ES.fail
   ·exact ES.fail
  case append sz q x y =>
   rw [A3 LP rfl] at he
   simp only [evalOp] at he
   split at he
   ·rw [RV he]; exact L1 LP x s _ _ rfl
   ·simp at he
  case extract i x take =>
   rw [A3 LP rfl] at he
   simp only [evalOp] at he
   repeat' split at he
   all_goals first
    | (simp at he; done)
    | (rw [RV he])
  case call f as vis => cases vis <;> first | exact absurd rfl hv | simp [LOp.isStack] at h
  case bad => rw [A3 LP rfl] at he; simp [evalOp] at he
  all_goals exact absurd rfl hv
end
section
variable {T : Tables} {g : Gh} {w : World} {tss : List (Array Value)} {s s' : St} {ts : Array Value} {dst : Option Nat} {gi : Nat} {df : List Deferred} {C : AV}
variable {b : Frame} {k : List Item} {cs : List Frame} {ops : Array Oper} {i : Nat} {rest : List Nat}
theorem il {o : Oper} {ops : Array Oper} {gd : Option (Nat × Bool)} (h : Yh o ops = some gd) : (o.guard = none ∧ gd = none) ∨
  ∃ j want t, o.guard = some (j, want) ∧ (ops[j]?).bind (·.dst) = some t ∧ gd = some (t, want) := by
 unfold Yh at h
 split at h
 ·rename_i hg
  simp only [Option.some.injEq] at h
  exact .inl ⟨hg, h.symm⟩
 ·rename_i j want hg
  split at h
  ·rename_i t ht
   simp only [Option.some.injEq] at h
   exact .inr ⟨j, want, t, hg, ht, h.symm⟩
  ·simp at h
theorem nU {P : Program} {a : Ann} {o : Oper} {ops : Array Oper} (hb : (K4 P a o ops).op ≠ .bad) : (K4 P a o ops).dst = o.dst ∧ oe P a o.op = some (K4 P a o ops).op ∧
  ((K4 P a o ops).op.mute = true → o.dst = none) ∧ ((o.guard = none ∧ (K4 P a o ops).guard = none) ∨
   ∃ j want t, o.guard = some (j, want) ∧ (ops[j]?).bind (·.dst) = some t ∧ (K4 P a o ops).guard = some (t, want)) := by
 unfold K4 at hb ⊢
 cases hg : Yh o ops with
 | none => simp only [hg] at hb; exact absurd rfl hb
 | some gd =>
  cases ht : oe P a o.op with
  | none => simp only [hg, ht] at hb; exact absurd rfl hb
  | some op =>
   simp only [hg, ht] at hb ⊢
   by_cases hm : (op.mute && o.dst.isSome) = true
   ·simp only [hm, if_true] at hb; exact absurd rfl hb
   ·simp only [hm]
    refine ⟨rfl, rfl, fun h => ?_, il hg⟩
    have h' : op.mute = true := h
    rw [h'] at hm
    cases hd : o.dst with
    | none => rfl
    | some d => simp [hd] at hm
theorem tg {P : Program} {a : Ann} {op : Op} {f : Opd} {args : List Opd} {vis : Option (List Nat)} (h : oe P a op = some (.call f args vis)) :
  ∃ c fo, op = .call c ∧ c.callee = .value fo ∧ A2 fo = some f ∧ KG c.args = some args := by
 cases op <;> simp only [oe, bind] at h
 case call c =>
  split at h
  ·rename_i fo hc
   simp only [Option.bind_eq_some_iff, Option.some.injEq, LOp.call.injEq] at h
   obtain ⟨f', hf, args', hargs, rfl, rfl, _⟩ := h
   exact ⟨c, fo, rfl, hc, hf, hargs⟩
  all_goals (repeat' split at h)
  all_goals first
   | (simp [Option.bind_eq_some_iff] at h; done)
   | (simp only [Option.bind_eq_some_iff] at h; obtain ⟨_, _, _, _, _, _, h⟩ := h; split at h <;> simp [Option.bind_eq_some_iff] at h)
 all_goals (repeat' split at h)
 all_goals first
  | (simp [Option.bind_eq_some_iff] at h; done)
  | exact absurd (by assumption : _ = Op.call _) (by simp)
  | (simp only [Option.bind_eq_some_iff] at h; obtain ⟨_, _, h⟩ := h; (repeat' split at h); all_goals simp [Option.bind_eq_some_iff] at h)
  | (simp only [Option.bind_eq_some_iff] at h; obtain ⟨_, _, _, _, _, _, h⟩ := h; split at h <;> simp [Option.bind_eq_some_iff] at h)
  | skip
theorem rz {P : Program} {a : Ann} {op : Op} {lo : LOp} (h : oe P a op = some lo) : ∀ c, op ≠ .defer c := by
 intro c e
 subst e
 simp [oe] at h
theorem dK (hC : PI T C) (hR : Na T C) (hk : b.kind ≠ .early) (h : AX T g w tss s ts) {o : Oper} {a : Ann} {lo : AI} (hoi : ops[i]? = some o) (hlod : lo.dst = o.dst) (htr : oe T.P a o.op = some lo.op)
  (hmute : lo.op.mute = true → o.dst = none) (hd : ∀ d, o.dst = some d → d < ts.size) (hgi : gi < s.ctr) (hg : g.gb gi = none) (hw : Region.wanted o (yielded ops ts) = true)
  (he : E9 T.LP C gi lo s = some s') :
  D5 T.P (lone (b.atR ⟨ts, df⟩ (.inRegion ops (i :: rest) :: k)) cs w) (Xn T g w tss s s' ts o.dst gi fun ts' w' => lone (b.atR ⟨ts', df⟩ (.inRegion ops rest :: k)) cs w') := by
 have he0 := he
 unfold E9 at he
 split at he
 ·rw [hlod] at he
  by_cases hcall : lo.op.isCall = true
  ·
   cases hop : lo.op <;> rw [hop] at hcall <;> simp only [LOp.isCall, Bool.false_eq_true] at hcall
   rename_i f args vis
   rw [hop] at htr he
   clear he0
   obtain ⟨c, fo, ho, hc, hf, hargs⟩ := tg htr
   cases vis with
   | none => exact eM hC h hd hoi rfl hw ho hc hf hargs he
   | some vis => exact bz hC hR h hd hoi rfl hw ho hc hf hargs he
  ·have hca : lo.op.isCall = false := by simpa using hcall
   have hst : lo.op.isStack = false := by
    cases hop : lo.op <;> first | rfl | (rw [hop] at hca; simp [LOp.isCall] at hca)
   have hctr := sV T.LP hst he0
   ·obtain ⟨g', w', v, hr, hkept, hinv, hgb⟩ := zS (df := df) (dst := o.dst) h hd hgi hg htr hmute hca he
    have hnd := rz htr
    have fin : Xn T g w tss s s' ts o.dst gi (fun ts' w' => lone (b.atR ⟨ts', df⟩ (.inRegion ops rest :: k)) cs w') (lone (b.atR ⟨nQ ts o.dst v, df⟩ (.inRegion ops rest :: k)) cs w') :=
     ⟨g', w', v, rfl, hkept, hinv, hgb, by rw [hctr]; exact Nat.le_refl _⟩
    rcases hr with hr | ⟨hr, rfl⟩
    ·refine D5.step (rZ hoi hw hnd hr) (D5.here ?_)
     rw [Uj]; exact fin
    ·refine D5.step (sj hoi hw hnd hr) (D5.here ?_)
     rw [Uj]; exact fin
 ·simp at he
end
end Go.Lf
namespace Go.Lf
open Go
section
variable {T : Tables} {g : Gh} {w : World} {tss : List (Array Value)} {s s' : St} {ts : Array Value} {dst : Option Nat} {gi : Nat} {df : List Deferred} {C : AV}
variable {b : Frame} {k : List Item} {cs : List Frame} {ops : Array Oper} {i : Nat} {rest : List Nat}
theorem oo (h : AX T g w tss s ts) {o : Oper} (hoi : ops[i]? = some o) (hd : ∀ d, o.dst = some d → d < ts.size) (hw : Region.wanted o (yielded ops ts) = false)
  (he : s.put o.dst (.d .undef) = some s') :
  D5 T.P (lone (b.atR ⟨ts, df⟩ (.inRegion ops (i :: rest) :: k)) cs w) (Xn T g w tss s s' ts o.dst gi fun ts' w' => lone (b.atR ⟨ts', df⟩ (.inRegion ops rest :: k)) cs w') := by
 refine D5.step (stepR_op_skip (by rw [hoi]; simpa using hw)) (D5.here ?_)
 have : (ops[i]?).bind (·.dst) = o.dst := by rw [hoi]; rfl
 rw [this, Uj]
 exact ⟨g, w, undef, rfl, .refl g w, h.put_cold he hd (.d .undef) rfl, fun _ _ _ => rfl, by rw [RV he]; exact Nat.le_refl _⟩
theorem lB {LP : BA} {lo : AI} {s' : St} (hg : lo.guard = none) (hb : lo.op = .bad) : Ao LP C gi lo s ≠ some s' := by
 unfold Ao
 rw [hg, hb]
 simp [evalOp]
theorem rP {P : Program} {a : Ann} {o : Oper} {ops : Array Oper} (hb : (K4 P a o ops).op = .bad) (hn : oe P a o.op ≠ some .bad) : (K4 P a o ops).guard = none := by
 unfold K4 at hb ⊢
 cases hg : Yh o ops with
 | none => rfl
 | some gd =>
  cases ht : oe P a o.op with
  | none => rfl
  | some op =>
   simp only [hg, ht] at hb ⊢
   by_cases hm : (op.mute && o.dst.isSome) = true
   ·simp only [hm, if_true]
   ·simp only [hm] at hb
    have hb' : op = .bad := hb
    subst hb'
    exact absurd ht hn
theorem vj {P : Program} {a : Ann} {op : Op} : oe P a op ≠ some .bad := by
 intro h
 cases op <;> simp only [oe, bind] at h
 all_goals (repeat' split at h)
 all_goals first
  | (simp [Option.bind_eq_some_iff] at h; done)
  | exact absurd (by assumption : _ = Op.call _) (by simp)
  | (simp only [Option.bind_eq_some_iff] at h; obtain ⟨_, _, h⟩ := h; (repeat' split at h); all_goals simp [Option.bind_eq_some_iff] at h)
  | (simp only [Option.bind_eq_some_iff] at h; obtain ⟨_, _, _, _, _, _, h⟩ := h; split at h <;> simp [Option.bind_eq_some_iff] at h)
theorem sT (h : AX T g w tss s ts) {t : Nat} {bb : Bool} (hs : s.slot t = .d (.bool bb)) : ts[t]? = some (.bool bb) := by
 have hr := h.slot t
 rw [hs] at hr
 have := hr.bool rfl
 unfold Array.getD at this
 split at this
 ·rename_i hlt
  rw [Array.getElem?_eq_getElem hlt]
  simpa using this
 ·simp [Go.undef] at this
theorem rI (h : AX T g w tss s ts) {t : Nat} (hs : s.slot t = .d .undef) : ts[t]? = none ∨ ts[t]? = some Go.undef := by
 have hr := h.slot t
 rw [hs] at hr
 have hv := hr.dinv
 unfold Array.getD at hv
 split at hv
 ·rename_i hlt
  right
  rw [Array.getElem?_eq_getElem hlt]
  simp only [Array.getInternal_eq_getElem] at hv
  generalize ts[t] = u at hv ⊢
  cases hv; rfl
 ·rename_i hlt
  left
  simp [hlt]
theorem yI (hC : PI T C) (hR : Na T C) (hk : b.kind ≠ .early) (h : AX T g w tss s ts) {o : Oper} {a : Ann} (hoi : ops[i]? = some o) (hd : ∀ d, o.dst = some d → d < ts.size)
  (hgi : gi < s.ctr) (hg : g.gb gi = none) (he : Ao T.LP C gi (K4 T.P a o ops) s = some s') :
  D5 T.P (lone (b.atR ⟨ts, df⟩ (.inRegion ops (i :: rest) :: k)) cs w) (Xn T g w tss s s' ts o.dst gi fun ts' w' => lone (b.atR ⟨ts', df⟩ (.inRegion ops rest :: k)) cs w') := by
 have hb : (K4 T.P a o ops).op ≠ .bad := fun hb => lB (rP hb vj) hb he
 obtain ⟨h1, h2, h3, h4⟩ := nU hb
 unfold Ao at he
 rcases h4 with ⟨hg1, hg2⟩ | ⟨j, want, t, hg1, hj, hg2⟩
 ·rw [hg2] at he
  exact dK hC hR hk h hoi h1 h2 h3 hd hgi hg (by simp [Region.wanted, hg1]) (by unfold E9; exact he)
 ·rw [hg2] at he
  simp only at he
  split at he
  ·rename_i bb hs
   have hy : yielded ops ts j = some bb := by
    simp only [yielded, hj, Option.bind_some, sT h hs]
   split at he
   ·rename_i hbw
    subst hbw
    exact dK hC hR hk h hoi h1 h2 h3 hd hgi hg (by simp [Region.wanted, hg1, hy]) (by unfold E9; exact he)
   ·rename_i hbw
    rw [h1] at he
    exact oo h hoi hd (by simp [Region.wanted, hg1, hy, hbw]) he
  ·rename_i hs
   have hy : yielded ops ts j = none := by
    rcases rI h hs with e | e <;> simp [yielded, hj, e, Go.undef]
   rw [h1] at he
   exact oo h hoi hd (by simp [Region.wanted, hg1, hy]) he
  ·simp at he
theorem rT (P : Program) (r : YK) (ops : Array Oper) {i : Nat} {o : Oper} (h : ops[i]? = some o) : (Su P r ops).getD i default = K4 P ((r.anns.lookup i).getD {}) o ops := by
 have hi : i < ops.size := (Array.getElem?_eq_some_iff.1 h).1
 unfold Su
 rw [List.getD_eq_getElem?_getD, List.getElem?_map, List.getElem?_range hi]
 simp only [Option.map_some, Option.getD_some]
 congr 1
 rw [Array.getD_eq_getD_getElem?, h]; rfl
theorem sk (hC : PI T C) (hR : Na T C) (hk : b.kind ≠ .early) {r : YK} {c : Nat} (hdst : ∀ (i : Nat) (o : Oper), ops[i]? = some o → ∀ d, o.dst = some d → d < ts.size) :
  ∀ (σ : List Nat) {g : Gh} {w : World} {s s' : St} {ts' : Array Value}, ts'.size = ts.size → AX T g w tss s ts' → σ.Nodup → (∀ i, i ∈ σ → i < ops.size ∧ g.gb (c + i) = none ∧ c + i < s.ctr) →
   D6 T.LP C c (Su T.P r ops) σ s = some s' →
   D5 T.P (lone (b.atR ⟨ts', df⟩ (.inRegion ops σ :: k)) cs w) fun m' => ∃ g' w' ts'', m' = lone (b.atR ⟨ts'', df⟩ (.inRegion ops [] :: k)) cs w' ∧ ts''.size = ts.size ∧ Q7 g w g' w' ∧ AX T g' w' tss s' ts'' ∧
    (∀ n, n < s.ctr → (∀ i, i ∈ σ → n ≠ c + i) → g'.gb n = g.gb n) ∧ s.ctr ≤ s'.ctr
 | [], g, w, s, s', ts', hsz, h, _, _, he => by
  simp only [D6, Option.some.injEq] at he
  subst he
  exact D5.here ⟨g, w, ts', rfl, hsz, .refl g w, h, fun _ _ _ => rfl, Nat.le_refl _⟩
 | i :: σ, g, w, s, s', ts', hsz, h, hn, hσ, he => by
  simp only [D6] at he
  split at he
  ·rename_i s1 h1
   obtain ⟨hi, hgi, hci⟩ := hσ i (by simp)
   have hoi : ops[i]? = some ops[i] := Array.getElem?_eq_getElem hi
   rw [rT T.P r ops hoi] at h1
   refine (yI (k := k) (cs := cs) (df := df) (rest := σ) hC hR hk h hoi (fun d hd => by rw [hsz]; exact hdst i _ hoi d hd) hci hgi h1).bind fun m' hm' => ?_
   obtain ⟨g1, w1, v, rfl, hk1, hi1, hg1, hc1⟩ := hm'
   obtain ⟨hni, hn'⟩ := List.nodup_cons.1 hn
   refine (sk hC hR hk hdst σ (by rw [uQ, hsz]) hi1 hn' (fun j hj => ?_) he).mono fun m' hm' => ?_
   ·obtain ⟨a1, a2, a3⟩ := hσ j (by simp [hj])
    have hne : c + j ≠ c + i := fun e => hni ((show j = i by omega) ▸ hj)
    exact ⟨a1, by rw [hg1 _ a3 hne]; exact a2, Nat.lt_of_lt_of_le a3 hc1⟩
   ·obtain ⟨g2, w2, ts2, e, hs2, hk2, hi2, hg2, hc2⟩ := hm'
    exact ⟨g2, w2, ts2, e, hs2, hk1.trans hk2, hi2, fun n hn hne => by
     rw [hg2 n (Nat.lt_of_lt_of_le hn hc1) fun j hj => hne j (by simp [hj]), hg1 n hn (hne i (by simp))], Nat.le_trans hc1 hc2⟩
  ·simp at he
theorem YO (LP : BA) (C : AV) (c : Nat) (los : List AI) : ∀ (n i : Nat) (s : St), i + n = los.length →
  evalOps LP C (c + i) (los.drop i) s = D6 LP C c los (List.range' i n) s
 | 0, i, s, h => by
  rw [List.drop_of_length_le (by omega)]
  rfl
 | n + 1, i, s, h => by
  have hi : i < los.length := by omega
  rw [List.drop_eq_getElem_cons hi, List.range'_succ]
  simp only [evalOps, D6, List.getD_eq_getElem?_getD, List.getElem?_eq_getElem hi, Option.getD_some]
  cases Ao LP C (c + i) los[i] s with
  | none => rfl
  | some s1 => exact YO LP C c los n (i + 1) s1 (by omega)
theorem gP (LP : BA) (C : AV) (c : Nat) (los : List AI) (s : St) : evalOps LP C c los s = D6 LP C c los (List.range los.length) s := by
 have := YO LP C c los los.length 0 s (by omega)
 rw [List.range_eq_range']
 simpa using this
theorem AX.congr (h : AX T g w tss s ts) {r : St} (he : cV s r) : AX T g w tss r ts :=
 ⟨by rw [← he.ctr]; exact h.winv, by rw [← he.low]; exact h.stack, fun t sl hs => by rw [← he.low]; exact h.env t sl (by rw [he.env]; exact hs)⟩
end
end Go.Lf
