/- A part of the proof. -/
import Derived.Test.YtpkbckdhkaggbaaDoorx19
set_option linter.all false
namespace Go.Lf
open Go
section
variable (LP : A2)
def Dl {α : Type} (f : St → Option (α × St)) : Prop := ∀ s a s', f s = some (a, s') → s'.ctr = s.ctr
theorem Dl.bind {α β : Type} {f : St → Option (α × St)} {k : α → St → Option (β × St)} (hf : Dl f) (hk : ∀ a, Dl (k a)) : Dl (Bw f k) := by
 intro s b s' h
 unfold Bw at h
 split at h
 ·rename_i a s1 h1
  rw [hk a s1 b s' h, hf s a s1 h1]
 ·simp at h
theorem Dl.fail {α : Type} : Dl (fun _ => (none : Option (α × St))) := fun _ _ _ h => by simp at h
theorem IP (d : Option Nat) (x : LV) : Dl (RP d x) := by
 intro s a s' h
 simp only [RP, Option.map_eq_some_iff, Prod.mk.injEq, true_and, exists_eq_right] at h
 exact Nu h
theorem G3 (x : vD) : Dl (t4 LP x) := by
 intro s a s' h
 simp only [t4, Option.some.injEq, Prod.mk.injEq] at h
 rw [h.2]
theorem JY (x : vD) : Dl (LD LP x) := by
 intro s a s' h
 simp only [LD, Option.some.injEq] at h
 have := congrArg Prod.snd h
 simp only at this
 rw [← this]
 unfold St.take
 cases x with
 | tmp t => simp only; split <;> rfl
 | _ => rfl
theorem RF {α : Type} (root : Option (Option Nat)) (j t g off : Nat) (k : List LV → Option (α × List LV)) : Dl (L2 root j t g off k) := by
 intro s a s' h
 unfold L2 at h
 repeat' split at h
 all_goals first
  | (simp at h; done)
  | (simp only [Option.some.injEq, Prod.mk.injEq] at h; rw [← h.2]; exact bF)
theorem Ly {α : Type} (root : Option (Option Nat)) (j t g n : Nat) (k : List (List Int × LV) → Option (α × List (List Int × LV))) : Dl (K1 root j t g n k) := by
 intro s a s' h
 unfold K1 at h
 repeat' split at h
 all_goals first
  | (simp at h; done)
  | (simp only [Option.some.injEq, Prod.mk.injEq] at h; rw [← h.2]; exact bF)
theorem M6 {α : Type} (f : St → Option α) : Dl (fun s => (f s).map fun a => (a, s)) := by
 intro s a s' h
 simp only [Option.map_eq_some_iff, Prod.mk.injEq] at h
 obtain ⟨_, _, _, rfl⟩ := h; rfl
def u5.isStack : u5 → Bool
 | .call _ _ (some _) => true
 | _ => false
theorem l3 {C : AP} {g : Nat} {o : AG} (h : o.op.isStack = false) {s s' : St} (he : EK LP C g o s = some s') : s'.ctr = s.ctr := by
 have of : ∀ {h : St → Option (Unit × St)}, Dl h → EK LP C g o s = (h s).map (·.2) → s'.ctr = s.ctr := by
  intro h hs hq
  rw [hq] at he
  simp only [Option.map_eq_some_iff] at he
  obtain ⟨⟨u, s1⟩, h1, rfl⟩ := he
  exact hs s u s1 h1
 obtain ⟨dst, op, guard, root⟩ := o
 by_cases hv : op.isValue = true
 ·have hadd : op.addr = none := by
   cases op <;> first | rfl | simp [u5.isValue] at hv
  rw [As LP hadd, RL LP C g dst hv] at he
  simp only [Option.bind_eq_some_iff] at he
  obtain ⟨v, _, hp⟩ := he
  exact Nu hp
 ·cases op
  case move x b =>
   cases b
   ·exact absurd rfl hv
   ·refine of (h := Bw (LD LP x) fun v => RP dst v) (Dl.bind (JY LP x) fun v => IP _ _) ?_
    rw [As LP rfl]; simp only [evalOp, Bw, LD]; exact BN _ _ _
  case alloc zs =>
   rw [As LP rfl] at he
   simp only [evalOp] at he
   split at he
   ·simp only [Option.some.injEq] at he; rw [← he]
   ·simp at he
  case box n x =>
   rw [As LP rfl] at he
   simp only [evalOp] at he
   repeat' split at he
   all_goals first
    | (simp at he; done)
    | (simp only [Option.some.injEq] at he; rw [← he])
  case mkmap n =>
   rw [As LP rfl] at he
   simp only [evalOp] at he
   split at he
   ·simp only [Option.some.injEq] at he; rw [← he]
   ·simp at he
  case mapset n m k v =>
   refine of ?_ (Z3 LP C g s)
   refine Dl.bind (G3 LP _) fun mv => Dl.bind (G3 LP _) fun kv => ?_
   unfold VB
   split
   ·exact Dl.bind (JY LP _) fun xv => Ly _ _ _ _ _ _
   ·exact Dl.fail
  case mstore n m k v =>
   refine of ?_ (dN LP C g s)
   refine Dl.bind (G3 LP _) fun mv => Dl.bind (G3 LP _) fun kv => ?_
   unfold VP
   split
   ·exact Dl.bind (JY LP _) fun xv => Ly _ _ _ _ _ _
   ·exact Dl.fail
  case mentry n m k z =>
   refine of ?_ (cf LP C g s)
   refine Dl.bind (G3 LP _) fun mv => Dl.bind (G3 LP _) fun kv => ?_
   unfold U2
   split
   ·exact Dl.bind (Ly _ _ _ _ _ _) fun r => IP _ _
   ·exact Dl.fail
  case lookup n m k ok z =>
   refine of ?_ (cm LP C g s)
   refine Dl.bind (G3 LP _) fun mv => Dl.bind (G3 LP _) fun kv => Dl.bind ?_ fun r => IP _ _
   unfold ZT
   split
   ·exact Dl.fail
   ·split
    ·exact M6 _
    ·split
     ·exact M6 fun s => some _
     ·exact Dl.fail
    ·exact M6 fun s => some _
    ·exact Dl.fail
  case load k p b =>
   refine of ?_ (kb LP C g s)
   refine Dl.bind (G3 LP _) fun pv => ?_
   unfold V9
   split
   ·split
    ·exact IP _ _
    ·exact Dl.fail
   ·split
    ·exact IP _ _
    ·exact Dl.fail
   ·refine Dl.bind (M6 _) fun cs => ?_
    split
    ·exact Dl.bind (RF _ _ _ _ _ _) fun _ => IP _ _
    ·split
     ·exact IP _ _
     ·exact Dl.fail
   ·exact Dl.fail
  case store n p x =>
   refine of ?_ (fX LP C g s)
   refine Dl.bind (G3 LP _) fun pv => ?_
   unfold an
   split
   ·refine Dl.bind (JY LP _) fun xv => ?_
    split
    ·exact RF _ _ _ _ _ _
    ·exact Dl.fail
   ·exact Dl.fail
  case append sz q x y =>
   rw [As LP rfl] at he
   simp only [evalOp] at he
   split at he
   ·rw [Nu he]; exact JY LP x s _ _ rfl
   ·simp at he
  case extract i x take =>
   rw [As LP rfl] at he
   simp only [evalOp] at he
   repeat' split at he
   all_goals first
    | (simp at he; done)
    | (rw [Nu he])
  case call f as vis => cases vis <;> first | exact absurd rfl hv | simp [u5.isStack] at h
  case bad => rw [As LP rfl] at he; simp [evalOp] at he
  all_goals exact absurd rfl hv
end
section
variable {T : Tables} {g : Gh} {w : World} {tss : List (Array Value)} {s s' : St} {ts : Array Value} {dst : Option Nat} {gi : Nat} {df : List Deferred} {C : AP}
variable {b : Frame} {k : List Item} {cs : List Frame} {ops : Array Oper} {i : Nat} {rest : List Nat}
theorem bf {o : Oper} {ops : Array Oper} {gd : Option (Nat × Bool)} (h : Uu o ops = some gd) : (o.guard = none ∧ gd = none) ∨
  ∃ j want t, o.guard = some (j, want) ∧ (ops[j]?).bind (·.dst) = some t ∧ gd = some (t, want) := by
 unfold Uu at h
 split at h
 ·rename_i hg
  simp only [Option.some.injEq] at h
  exact .inl ⟨hg, h.symm⟩
 ·rename_i j want hg
  split at h
  ·rename_i t ht
   simp only [Option.some.injEq] at h
   exact .inr ⟨j, want, t, hg, ht, h.symm⟩
  ·simp at h
theorem eI {P : Program} {a : uu} {o : Oper} {ops : Array Oper} (hb : (Iw P a o ops).op ≠ .bad) : (Iw P a o ops).dst = o.dst ∧ gC P a o.op = some (Iw P a o ops).op ∧
  ((Iw P a o ops).op.mute = true → o.dst = none) ∧ ((o.guard = none ∧ (Iw P a o ops).guard = none) ∨
   ∃ j want t, o.guard = some (j, want) ∧ (ops[j]?).bind (·.dst) = some t ∧ (Iw P a o ops).guard = some (t, want)) := by
 unfold Iw at hb ⊢
 cases hg : Uu o ops with
 | none => simp only [hg] at hb; exact absurd rfl hb
 | some gd =>
  cases ht : gC P a o.op with
  | none => simp only [hg, ht] at hb; exact absurd rfl hb
  | some op =>
   simp only [hg, ht] at hb ⊢
   by_cases hm : (op.mute && o.dst.isSome) = true
   ·simp only [hm, if_true] at hb; exact absurd rfl hb
   ·simp only [hm]
    refine ⟨rfl, rfl, fun h => ?_, bf hg⟩
    have h' : op.mute = true := h
    rw [h'] at hm
    cases hd : o.dst with
    | none => rfl
    | some d => simp [hd] at hm
theorem jz {P : Program} {a : uu} {op : Op} {f : vD} {args : List vD} {vis : Option (List Nat)} (h : gC P a op = some (.call f args vis)) :
  ∃ c fo, op = .call c ∧ c.callee = .value fo ∧ Aq fo = some f ∧ Ic c.args = some args := by
 cases op <;> simp only [gC, bind] at h
 case call c =>
  split at h
  ·rename_i fo hc
   simp only [Option.bind_eq_some_iff, Option.some.injEq, u5.call.injEq] at h
   obtain ⟨f', hf, args', hargs, rfl, rfl, _⟩ := h
   exact ⟨c, fo, rfl, hc, hf, hargs⟩
  all_goals (repeat' split at h)
  all_goals first
   | (simp [Option.bind_eq_some_iff] at h; done)
   | (simp only [Option.bind_eq_some_iff] at h; obtain ⟨_, _, _, _, _, _, h⟩ := h; split at h <;> simp [Option.bind_eq_some_iff] at h)
 all_goals (repeat' split at h)
 all_goals first
  | (simp [Option.bind_eq_some_iff] at h; done)
  | exact absurd (by assumption : _ = Op.call _) (by simp)
  | (simp only [Option.bind_eq_some_iff] at h; obtain ⟨_, _, h⟩ := h; (repeat' split at h); all_goals simp [Option.bind_eq_some_iff] at h)
  | (simp only [Option.bind_eq_some_iff] at h; obtain ⟨_, _, _, _, _, _, h⟩ := h; split at h <;> simp [Option.bind_eq_some_iff] at h)
  | skip
theorem jG {P : Program} {a : uu} {op : Op} {lo : u5} (h : gC P a op = some lo) : ∀ c, op ≠ .defer c := by
 intro c e
 subst e
 simp [gC] at h
theorem XT (hC : MB T C) (hR : KX T C) (hk : b.kind ≠ .early) (h : AS T g w tss s ts) {o : Oper} {a : uu} {lo : AG} (hoi : ops[i]? = some o) (hlod : lo.dst = o.dst) (htr : gC T.P a o.op = some lo.op)
  (hmute : lo.op.mute = true → o.dst = none) (hd : ∀ d, o.dst = some d → d < ts.size) (hgi : gi < s.ctr) (hg : g.gb gi = none) (hw : Region.wanted o (yielded ops ts) = true)
  (he : EK T.LP C gi lo s = some s') :
  DL T.P (lone (b.atR ⟨ts, df⟩ (.inRegion ops (i :: rest) :: k)) cs w) (UY T g w tss s s' ts o.dst gi fun ts' w' => lone (b.atR ⟨ts', df⟩ (.inRegion ops rest :: k)) cs w') := by
 have he0 := he
 unfold EK at he
 split at he
 ·rw [hlod] at he
  by_cases hcall : lo.op.isCall = true
  ·
   cases hop : lo.op <;> rw [hop] at hcall <;> simp only [u5.isCall, Bool.false_eq_true] at hcall
   rename_i f args vis
   rw [hop] at htr he
   clear he0
   obtain ⟨c, fo, ho, hc, hf, hargs⟩ := jz htr
   cases vis with
   | none => exact YW hC h hd hoi rfl hw ho hc hf hargs he
   | some vis => exact Wz hC hR h hd hoi rfl hw ho hc hf hargs he
  ·have hca : lo.op.isCall = false := by simpa using hcall
   have hst : lo.op.isStack = false := by
    cases hop : lo.op <;> first | rfl | (rw [hop] at hca; simp [u5.isCall] at hca)
   have hctr := l3 T.LP hst he0
   ·obtain ⟨g', w', v, hr, hkept, hinv, hgb⟩ := rA (df := df) (dst := o.dst) h hd hgi hg htr hmute hca he
    have hnd := jG htr
    have vN : UY T g w tss s s' ts o.dst gi (fun ts' w' => lone (b.atR ⟨ts', df⟩ (.inRegion ops rest :: k)) cs w') (lone (b.atR ⟨eb ts o.dst v, df⟩ (.inRegion ops rest :: k)) cs w') :=
     ⟨g', w', v, rfl, hkept, hinv, hgb, by rw [hctr]; exact Nat.le_refl _⟩
    rcases hr with hr | ⟨hr, rfl⟩
    ·refine DL.step (jN hoi hw hnd hr) (DL.here ?_)
     rw [Qs]; exact vN
    ·refine DL.step (kF hoi hw hnd hr) (DL.here ?_)
     rw [Qs]; exact vN
 ·simp at he
end
end Go.Lf
namespace Go.Lf
open Go
section
variable {T : Tables} {g : Gh} {w : World} {tss : List (Array Value)} {s s' : St} {ts : Array Value} {dst : Option Nat} {gi : Nat} {df : List Deferred} {C : AP}
variable {b : Frame} {k : List Item} {cs : List Frame} {ops : Array Oper} {i : Nat} {rest : List Nat}
theorem gg (h : AS T g w tss s ts) {o : Oper} (hoi : ops[i]? = some o) (hd : ∀ d, o.dst = some d → d < ts.size) (hw : Region.wanted o (yielded ops ts) = false)
  (he : s.put o.dst (.d .undef) = some s') :
  DL T.P (lone (b.atR ⟨ts, df⟩ (.inRegion ops (i :: rest) :: k)) cs w) (UY T g w tss s s' ts o.dst gi fun ts' w' => lone (b.atR ⟨ts', df⟩ (.inRegion ops rest :: k)) cs w') := by
 refine DL.step (stepR_op_skip (by rw [hoi]; simpa using hw)) (DL.here ?_)
 have : (ops[i]?).bind (·.dst) = o.dst := by rw [hoi]; rfl
 rw [this, Qs]
 exact ⟨g, w, undef, rfl, .refl g w, h.put_cold he hd (.d .undef) rfl, fun _ _ _ => rfl, by rw [Nu he]; exact Nat.le_refl _⟩
theorem cF {LP : A2} {lo : AG} {s' : St} (hg : lo.guard = none) (hb : lo.op = .bad) : Ah LP C gi lo s ≠ some s' := by
 unfold Ah
 rw [hg, hb]
 simp [evalOp]
theorem i9 {P : Program} {a : uu} {o : Oper} {ops : Array Oper} (hb : (Iw P a o ops).op = .bad) (hn : gC P a o.op ≠ some .bad) : (Iw P a o ops).guard = none := by
 unfold Iw at hb ⊢
 cases hg : Uu o ops with
 | none => rfl
 | some gd =>
  cases ht : gC P a o.op with
  | none => rfl
  | some op =>
   simp only [hg, ht] at hb ⊢
   by_cases hm : (op.mute && o.dst.isSome) = true
   ·simp only [hm, if_true]
   ·simp only [hm] at hb
    have hb' : op = .bad := hb
    subst hb'
    exact absurd ht hn
theorem nS {P : Program} {a : uu} {op : Op} : gC P a op ≠ some .bad := by
 intro h
 cases op <;> simp only [gC, bind] at h
 all_goals (repeat' split at h)
 all_goals first
  | (simp [Option.bind_eq_some_iff] at h; done)
  | exact absurd (by assumption : _ = Op.call _) (by simp)
  | (simp only [Option.bind_eq_some_iff] at h; obtain ⟨_, _, h⟩ := h; (repeat' split at h); all_goals simp [Option.bind_eq_some_iff] at h)
  | (simp only [Option.bind_eq_some_iff] at h; obtain ⟨_, _, _, _, _, _, h⟩ := h; split at h <;> simp [Option.bind_eq_some_iff] at h)
theorem mB (h : AS T g w tss s ts) {t : Nat} {bb : Bool} (hs : s.slot t = .d (.bool bb)) : ts[t]? = some (.bool bb) := by
 have hr := h.slot t
 rw [hs] at hr
 have := hr.bool rfl
 unfold Array.getD at this
 split at this
 ·rename_i hlt
  rw [Array.getElem?_eq_getElem hlt]
  simpa using this
 ·simp [Go.undef] at this
theorem jE (h : AS T g w tss s ts) {t : Nat} (hs : s.slot t = .d .undef) : ts[t]? = none ∨ ts[t]? = some Go.undef := by
 have hr := h.slot t
 rw [hs] at hr
 have hv := hr.dinv
 unfold Array.getD at hv
 split at hv
 ·rename_i hlt
  right
  rw [Array.getElem?_eq_getElem hlt]
  simp only [Array.getInternal_eq_getElem] at hv
  generalize ts[t] = u at hv ⊢
  cases hv; rfl
 ·rename_i hlt
  left
  simp [hlt]
theorem qC (hC : MB T C) (hR : KX T C) (hk : b.kind ≠ .early) (h : AS T g w tss s ts) {o : Oper} {a : uu} (hoi : ops[i]? = some o) (hd : ∀ d, o.dst = some d → d < ts.size)
  (hgi : gi < s.ctr) (hg : g.gb gi = none) (he : Ah T.LP C gi (Iw T.P a o ops) s = some s') :
  DL T.P (lone (b.atR ⟨ts, df⟩ (.inRegion ops (i :: rest) :: k)) cs w) (UY T g w tss s s' ts o.dst gi fun ts' w' => lone (b.atR ⟨ts', df⟩ (.inRegion ops rest :: k)) cs w') := by
 have hb : (Iw T.P a o ops).op ≠ .bad := fun hb => cF (i9 hb nS) hb he
 obtain ⟨h1, h2, h3, h4⟩ := eI hb
 unfold Ah at he
 rcases h4 with ⟨hg1, hg2⟩ | ⟨j, want, t, hg1, hj, hg2⟩
 ·rw [hg2] at he
  exact XT hC hR hk h hoi h1 h2 h3 hd hgi hg (by simp [Region.wanted, hg1]) (by unfold EK; exact he)
 ·rw [hg2] at he
  simp only at he
  split at he
  ·rename_i bb hs
   have hy : yielded ops ts j = some bb := by
    simp only [yielded, hj, Option.bind_some, mB h hs]
   split at he
   ·rename_i hbw
    subst hbw
    exact XT hC hR hk h hoi h1 h2 h3 hd hgi hg (by simp [Region.wanted, hg1, hy]) (by unfold EK; exact he)
   ·rename_i hbw
    rw [h1] at he
    exact gg h hoi hd (by simp [Region.wanted, hg1, hy, hbw]) he
  ·rename_i hs
   have hy : yielded ops ts j = none := by
    rcases jE h hs with e | e <;> simp [yielded, hj, e, Go.undef]
   rw [h1] at he
   exact gg h hoi hd (by simp [Region.wanted, hg1, hy]) he
  ·simp at he
theorem jS (P : Program) (r : Vf) (ops : Array Oper) {i : Nat} {o : Oper} (h : ops[i]? = some o) : (PX P r ops).getD i default = Iw P ((r.anns.lookup i).getD {}) o ops := by
 have hi : i < ops.size := (Array.getElem?_eq_some_iff.1 h).1
 unfold PX
 rw [List.getD_eq_getElem?_getD, List.getElem?_map, List.getElem?_range hi]
 simp only [Option.map_some, Option.getD_some]
 congr 1
 rw [Array.getD_eq_getD_getElem?, h]; rfl
theorem lY (hC : MB T C) (hR : KX T C) (hk : b.kind ≠ .early) {r : Vf} {c : Nat} (hdst : ∀ (i : Nat) (o : Oper), ops[i]? = some o → ∀ d, o.dst = some d → d < ts.size) :
  ∀ (σ : List Nat) {g : Gh} {w : World} {s s' : St} {ts' : Array Value}, ts'.size = ts.size → AS T g w tss s ts' → σ.Nodup → (∀ i, i ∈ σ → i < ops.size ∧ g.gb (c + i) = none ∧ c + i < s.ctr) →
   DU T.LP C c (PX T.P r ops) σ s = some s' →
   DL T.P (lone (b.atR ⟨ts', df⟩ (.inRegion ops σ :: k)) cs w) fun m' => ∃ g' w' ts'', m' = lone (b.atR ⟨ts'', df⟩ (.inRegion ops [] :: k)) cs w' ∧ ts''.size = ts.size ∧ N5 g w g' w' ∧ AS T g' w' tss s' ts'' ∧
    (∀ n, n < s.ctr → (∀ i, i ∈ σ → n ≠ c + i) → g'.gb n = g.gb n) ∧ s.ctr ≤ s'.ctr
 | [], g, w, s, s', ts', hsz, h, _, _, he => by
  simp only [DU, Option.some.injEq] at he
  subst he
  exact DL.here ⟨g, w, ts', rfl, hsz, .refl g w, h, fun _ _ _ => rfl, Nat.le_refl _⟩
 | i :: σ, g, w, s, s', ts', hsz, h, hn, hσ, he => by
  simp only [DU] at he
  split at he
  ·rename_i s1 h1
   obtain ⟨hi, hgi, hci⟩ := hσ i (by simp)
   have hoi : ops[i]? = some ops[i] := Array.getElem?_eq_getElem hi
   rw [jS T.P r ops hoi] at h1
   refine (qC (k := k) (cs := cs) (df := df) (rest := σ) hC hR hk h hoi (fun d hd => by rw [hsz]; exact hdst i _ hoi d hd) hci hgi h1).bind fun m' hm' => ?_
   obtain ⟨g1, w1, v, rfl, hk1, hi1, hg1, hc1⟩ := hm'
   obtain ⟨hni, hn'⟩ := List.nodup_cons.1 hn
   refine (lY hC hR hk hdst σ (by rw [mG, hsz]) hi1 hn' (fun j hj => ?_) he).mono fun m' hm' => ?_
   ·obtain ⟨a1, a2, a3⟩ := hσ j (by simp [hj])
    have hne : c + j ≠ c + i := fun e => hni ((show j = i by omega) ▸ hj)
    exact ⟨a1, by rw [hg1 _ a3 hne]; exact a2, Nat.lt_of_lt_of_le a3 hc1⟩
   ·obtain ⟨g2, w2, ts2, e, hs2, hk2, hi2, hg2, hc2⟩ := hm'
    exact ⟨g2, w2, ts2, e, hs2, hk1.trans hk2, hi2, fun n hn hne => by
     rw [hg2 n (Nat.lt_of_lt_of_le hn hc1) fun j hj => hne j (by simp [hj]), hg1 n hn (hne i (by simp))], Nat.le_trans hc1 hc2⟩
  ·simp at he
theorem Vb (LP : A2) (C : AP) (c : Nat) (los : List AG) : ∀ (n i : Nat) (s : St), i + n = los.length →
  evalOps LP C (c + i) (los.drop i) s = DU LP C c los (List.range' i n) s
 | 0, i, s, h => by
  rw [List.drop_of_length_le (by omega)]
  rfl
 | n + 1, i, s, h => by
  have hi : i < los.length := by omega
  rw [List.drop_eq_getElem_cons hi, List.range'_succ]
  simp only [evalOps, DU, List.getD_eq_getElem?_getD, List.getElem?_eq_getElem hi, Option.getD_some]
  cases Ah LP C (c + i) los[i] s with
  | none => rfl
  | some s1 => exact Vb LP C c los n (i + 1) s1 (by omega)
theorem Y6 (LP : A2) (C : AP) (c : Nat) (los : List AG) (s : St) : evalOps LP C c los s = DU LP C c los (List.range los.length) s := by
 have := Vb LP C c los los.length 0 s (by omega)
 rw [List.range_eq_range']
 simpa using this
theorem AS.congr (h : AS T g w tss s ts) {r : St} (he : XK s r) : AS T g w tss r ts :=
 ⟨by rw [← he.ctr]; exact h.winv, by rw [← he.low]; exact h.stack, fun t sl hs => by rw [← he.low]; exact h.env t sl (by rw [he.env]; exact hs)⟩
end
end Go.Lf
