/- A part of the proof. -/
import Derived.Test.YtohgomfnigdaoaaDoorx14
import Derived.RangeFuncLeaves
import Derived.RangeFuncIn
set_option linter.all false
namespace Go.Lf
open Go
section
variable (LP : A2)
def EC {α : Type} (f : St → Option (α × St)) : Prop := ∀ s a s', f s = some (a, s') → s'.ctr = s.ctr
theorem EC.bind {α β : Type} {f : St → Option (α × St)} {k : α → St → Option (β × St)} (hf : EC f) (hk : ∀ a, EC (k a)) : EC (CO f k) := by
 intro s b s' h
 unfold CO at h
 split at h
 ·rename_i a s1 h1
  rw [hk a s1 b s' h, hf s a s1 h1]
 ·simp at h
theorem EC.fail {α : Type} : EC (fun _ => (none : Option (α × St))) := fun _ _ _ h => by simp at h
theorem Jk (d : Option Nat) (x : LV) : EC (UZ d x) := by
 intro s a s' h
 simp only [UZ, Option.map_eq_some_iff, Prod.mk.injEq, true_and, exists_eq_right] at h
 exact Qg h
theorem H6 (x : yV) : EC (yW LP x) := by
 intro s a s' h
 simp only [yW, Option.some.injEq, Prod.mk.injEq] at h
 rw [h.2]
theorem LJ (x : yV) : EC (NY LP x) := by
 intro s a s' h
 simp only [NY, Option.some.injEq] at h
 have := congrArg Prod.snd h
 simp only at this
 rw [← this]
 unfold St.take
 cases x with
 | tmp t => simp only; split <;> rfl
 | _ => rfl
theorem Uu {α : Type} (root : Option (Option Nat)) (j t g off : Nat) (k : List LV → Option (α × List LV)) : EC (N5 root j t g off k) := by
 intro s a s' h
 unfold N5 at h
 repeat' split at h
 all_goals first
  | (simp at h; done)
  | (simp only [Option.some.injEq, Prod.mk.injEq] at h; rw [← h.2]; exact gG)
theorem OE {α : Type} (root : Option (Option Nat)) (j t g n : Nat) (k : List (List Int × LV) → Option (α × List (List Int × LV))) : EC (NK root j t g n k) := by
 intro s a s' h
 unfold NK at h
 repeat' split at h
 all_goals first
  | (simp at h; done)
  | (simp only [Option.some.injEq, Prod.mk.injEq] at h; rw [← h.2]; exact gG)
theorem Og {α : Type} (f : St → Option α) : EC (fun s => (f s).map fun a => (a, s)) := by
 intro s a s' h
 simp only [Option.map_eq_some_iff, Prod.mk.injEq] at h
 obtain ⟨_, _, _, rfl⟩ := h; rfl
def yE.isStack : yE → Bool
 | .call _ _ (some _) => true
 | _ => false
theorem oU {C : AP} {g : Nat} {o : AH} (h : o.op.isStack = false) {s s' : St} (he : Ew LP C g o s = some s') : s'.ctr = s.ctr := by
 have of : ∀ {h : St → Option (Unit × St)}, EC h → Ew LP C g o s = (h s).map (·.2) → s'.ctr = s.ctr := by
  intro h hs hq
  rw [hq] at he
  simp only [Option.map_eq_some_iff] at he
  obtain ⟨⟨u, s1⟩, h1, rfl⟩ := he
  exact hs s u s1 h1
 obtain ⟨dst, op, guard, root⟩ := o
 by_cases hv : op.isValue = true
 ·have hadd : op.addr = none := by
   cases op <;> first | rfl | simp [yE.isValue] at hv
  rw [As LP hadd, UV LP C g dst hv] at he
  simp only [Option.bind_eq_some_iff] at he
  obtain ⟨v, _, hp⟩ := he
  exact Qg hp
 ·cases op
  case move x b =>
   cases b
   ·exact absurd rfl hv
   ·refine of (h := CO (NY LP x) fun v => UZ dst v) (EC.bind (LJ LP x) fun v => Jk _ _) ?_
    rw [As LP rfl]; simp only [evalOp, CO, NY]; exact BZ _ _ _
  case alloc zs =>
   rw [As LP rfl] at he
   simp only [evalOp] at he
   split at he
   ·simp only [Option.some.injEq] at he; rw [← he]
   ·simp at he
  case box n x =>
   rw [As LP rfl] at he
   simp only [evalOp] at he
   repeat' split at he
   all_goals first
    | (simp at he; done)
    | (simp only [Option.some.injEq] at he; rw [← he])
  case mkmap n =>
   rw [As LP rfl] at he
   simp only [evalOp] at he
   split at he
   ·simp only [Option.some.injEq] at he; rw [← he]
   ·simp at he
  case mapset n m k v =>
   refine of ?_ (eT LP C g s)
   refine EC.bind (H6 LP _) fun mv => EC.bind (H6 LP _) fun kv => ?_
   unfold WX
   split
   ·exact EC.bind (LJ LP _) fun xv => OE _ _ _ _ _ _
   ·exact EC.fail
  case mstore n m k v =>
   refine of ?_ (dq LP C g s)
   refine EC.bind (H6 LP _) fun mv => EC.bind (H6 LP _) fun kv => ?_
   unfold WW
   split
   ·exact EC.bind (LJ LP _) fun xv => OE _ _ _ _ _ _
   ·exact EC.fail
  case mentry n m k z =>
   refine of ?_ (fN LP C g s)
   refine EC.bind (H6 LP _) fun mv => EC.bind (H6 LP _) fun kv => ?_
   unfold Xt
   split
   ·exact EC.bind (OE _ _ _ _ _ _) fun r => Jk _ _
   ·exact EC.fail
  case lookup n m k ok z =>
   refine of ?_ (fj LP C g s)
   refine EC.bind (H6 LP _) fun mv => EC.bind (H6 LP _) fun kv => EC.bind ?_ fun r => Jk _ _
   unfold cD
   split
   ·exact EC.fail
   ·split
    ·exact Og _
    ·split
     ·exact Og fun s => some _
     ·exact EC.fail
    ·exact Og fun s => some _
    ·exact EC.fail
  case load k p b =>
   refine of ?_ (pj LP C g s)
   refine EC.bind (H6 LP _) fun pv => ?_
   unfold YU
   split
   ·split
    ·exact Jk _ _
    ·exact EC.fail
   ·split
    ·exact Jk _ _
    ·exact EC.fail
   ·refine EC.bind (Og _) fun cs => ?_
    split
    ·exact EC.bind (Uu _ _ _ _ _ _) fun _ => Jk _ _
    ·split
     ·exact Jk _ _
     ·exact EC.fail
   ·exact EC.fail
  case store n p x =>
   refine of ?_ (ka LP C g s)
   refine EC.bind (H6 LP _) fun pv => ?_
   unfold eH
   split
   ·refine EC.bind (LJ LP _) fun xv => ?_
    split
    ·exact Uu _ _ _ _ _ _
    ·exact EC.fail
   ·exact EC.fail
  case append sz q x y =>
   rw [As LP rfl] at he
   simp only [evalOp] at he
   split at he
   ·rw [Qg he]; exact LJ LP x s _ _ rfl
   ·simp at he
  case extract i x take =>
   rw [As LP rfl] at he
   simp only [evalOp] at he
   repeat' split at he
   all_goals first
    | (simp at he; done)
    | (rw [Qg he])
  case call f as vis => cases vis <;> first | exact absurd rfl hv | simp [yE.isStack] at h
  case bad => rw [As LP rfl] at he; simp [evalOp] at he
  all_goals exact absurd rfl hv
end
section
variable {T : Tables} {g : Gh} {w : World} {tss : List (Array Value)} {s s' : St} {ts : Array Value} {dst : Option Nat} {gi : Nat} {df : List Deferred} {C : AP}
variable {b : Frame} {k : List Item} {cs : List Frame} {ops : Array Oper} {i : Nat} {rest : List Nat}
theorem ec {o : Oper} {ops : Array Oper} {gd : Option (Nat × Bool)} (h : Xd o ops = some gd) : (o.guard = none ∧ gd = none) ∨
  ∃ j want t, o.guard = some (j, want) ∧ (ops[j]?).bind (·.dst) = some t ∧ gd = some (t, want) := by
 unfold Xd at h
 split at h
 ·rename_i hg
  simp only [Option.some.injEq] at h
  exact .inl ⟨hg, h.symm⟩
 ·rename_i j want hg
  split at h
  ·rename_i t ht
   simp only [Option.some.injEq] at h
   exact .inr ⟨j, want, t, hg, ht, h.symm⟩
  ·simp at h
theorem i6 {P : Program} {a : yb} {o : Oper} {ops : Array Oper} (hb : (Jv P a o ops).op ≠ .bad) : (Jv P a o ops).dst = o.dst ∧ jw P a o.op = some (Jv P a o ops).op ∧
  ((Jv P a o ops).op.mute = true → o.dst = none) ∧ ((o.guard = none ∧ (Jv P a o ops).guard = none) ∨
   ∃ j want t, o.guard = some (j, want) ∧ (ops[j]?).bind (·.dst) = some t ∧ (Jv P a o ops).guard = some (t, want)) := by
 unfold Jv at hb ⊢
 cases hg : Xd o ops with
 | none => simp only [hg] at hb; exact absurd rfl hb
 | some gd =>
  cases ht : jw P a o.op with
  | none => simp only [hg, ht] at hb; exact absurd rfl hb
  | some op =>
   simp only [hg, ht] at hb ⊢
   by_cases hm : (op.mute && o.dst.isSome) = true
   ·simp only [hm, if_true] at hb; exact absurd rfl hb
   ·simp only [hm]
    refine ⟨rfl, rfl, fun h => ?_, ec hg⟩
    have h' : op.mute = true := h
    rw [h'] at hm
    cases hd : o.dst with
    | none => rfl
    | some d => simp [hd] at hm
theorem oj {P : Program} {a : yb} {op : Op} {f : yV} {args : List yV} {vis : Option (List Nat)} (h : jw P a op = some (.call f args vis)) :
  ∃ c fo, op = .call c ∧ c.callee = .value fo ∧ Aq fo = some f ∧ JV c.args = some args := by
 cases op <;> simp only [jw, bind] at h
 case call c =>
  split at h
  ·rename_i fo hc
   simp only [Option.bind_eq_some_iff, Option.some.injEq, yE.call.injEq] at h
   obtain ⟨f', hf, args', hargs, rfl, rfl, _⟩ := h
   exact ⟨c, fo, rfl, hc, hf, hargs⟩
  all_goals (repeat' split at h)
  all_goals first
   | (simp [Option.bind_eq_some_iff] at h; done)
   | (simp only [Option.bind_eq_some_iff] at h; obtain ⟨_, _, _, _, _, _, h⟩ := h; split at h <;> simp [Option.bind_eq_some_iff] at h)
 all_goals (repeat' split at h)
 all_goals first
  | (simp [Option.bind_eq_some_iff] at h; done)
  | exact absurd (by assumption : _ = Op.call _) (by simp)
  | (simp only [Option.bind_eq_some_iff] at h; obtain ⟨_, _, h⟩ := h; (repeat' split at h); all_goals simp [Option.bind_eq_some_iff] at h)
  | (simp only [Option.bind_eq_some_iff] at h; obtain ⟨_, _, _, _, _, _, h⟩ := h; split at h <;> simp [Option.bind_eq_some_iff] at h)
  | skip
theorem lY {P : Program} {a : yb} {op : Op} {lo : yE} (h : jw P a op = some lo) : ∀ c, op ≠ .defer c := by
 intro c e
 subst e
 simp [jw] at h
theorem ZU (hC : ON T C) (hR : MU T C) (hk : b.kind ≠ .early) (h : AV T g w tss s ts) {o : Oper} {a : yb} {lo : AH} (hoi : ops[i]? = some o) (hlod : lo.dst = o.dst) (htr : jw T.P a o.op = some lo.op)
  (hmute : lo.op.mute = true → o.dst = none) (hd : ∀ d, o.dst = some d → d < ts.size) (hgi : gi < s.ctr) (hg : g.gb gi = none) (hw : Region.wanted o (yielded ops ts) = true)
  (he : Ew T.LP C gi lo s = some s') :
  Dt T.P (lone (b.atR ⟨ts, df⟩ (.inRegion ops (i :: rest) :: k)) cs w) (Xe T g w tss s s' ts o.dst gi fun ts' w' => lone (b.atR ⟨ts', df⟩ (.inRegion ops rest :: k)) cs w') := by
 have he0 := he
 unfold Ew at he
 split at he
 ·rw [hlod] at he
  by_cases hcall : lo.op.isCall = true
  ·
   cases hop : lo.op <;> rw [hop] at hcall <;> simp only [yE.isCall, Bool.false_eq_true] at hcall
   rename_i f args vis
   rw [hop] at htr he
   clear he0
   obtain ⟨c, fo, ho, hc, hf, hargs⟩ := oj htr
   cases vis with
   | none => exact dC hC h hd hoi rfl hw ho hc hf hargs he
   | some vis => exact ZC hC hR h hd hoi rfl hw ho hc hf hargs he
  ·have hca : lo.op.isCall = false := by simpa using hcall
   have hst : lo.op.isStack = false := by
    cases hop : lo.op <;> first | rfl | (rw [hop] at hca; simp [yE.isCall] at hca)
   have hctr := oU T.LP hst he0
   ·obtain ⟨g', w', v, hr, hkept, hinv, hgb⟩ := uY (df := df) (dst := o.dst) h hd hgi hg htr hmute hca he
    have hnd := lY htr
    have yx : Xe T g w tss s s' ts o.dst gi (fun ts' w' => lone (b.atR ⟨ts', df⟩ (.inRegion ops rest :: k)) cs w') (lone (b.atR ⟨iV ts o.dst v, df⟩ (.inRegion ops rest :: k)) cs w') :=
     ⟨g', w', v, rfl, hkept, hinv, hgb, by rw [hctr]; exact Nat.le_refl _⟩
    rcases hr with hr | ⟨hr, rfl⟩
    ·refine Dt.step (li hoi hw hnd hr) (Dt.here ?_)
     rw [TG]; exact yx
    ·refine Dt.step (pO hoi hw hnd hr) (Dt.here ?_)
     rw [TG]; exact yx
 ·simp at he
end
end Go.Lf
namespace Go.Lf
open Go
section
variable {T : Tables} {g : Gh} {w : World} {tss : List (Array Value)} {s s' : St} {ts : Array Value} {dst : Option Nat} {gi : Nat} {df : List Deferred} {C : AP}
variable {b : Frame} {k : List Item} {cs : List Frame} {ops : Array Oper} {i : Nat} {rest : List Nat}
theorem lR (h : AV T g w tss s ts) {o : Oper} (hoi : ops[i]? = some o) (hd : ∀ d, o.dst = some d → d < ts.size) (hw : Region.wanted o (yielded ops ts) = false)
  (he : s.put o.dst (.d .undef) = some s') :
  Dt T.P (lone (b.atR ⟨ts, df⟩ (.inRegion ops (i :: rest) :: k)) cs w) (Xe T g w tss s s' ts o.dst gi fun ts' w' => lone (b.atR ⟨ts', df⟩ (.inRegion ops rest :: k)) cs w') := by
 refine Dt.step (stepR_op_skip (by rw [hoi]; simpa using hw)) (Dt.here ?_)
 have : (ops[i]?).bind (·.dst) = o.dst := by rw [hoi]; rfl
 rw [this, TG]
 exact ⟨g, w, undef, rfl, .refl g w, h.put_cold he hd (.d .undef) rfl, fun _ _ _ => rfl, by rw [Qg he]; exact Nat.le_refl _⟩
theorem dx {LP : A2} {lo : AH} {s' : St} (hg : lo.guard = none) (hb : lo.op = .bad) : Ai LP C gi lo s ≠ some s' := by
 unfold Ai
 rw [hg, hb]
 simp [evalOp]
theorem mD {P : Program} {a : yb} {o : Oper} {ops : Array Oper} (hb : (Jv P a o ops).op = .bad) (hn : jw P a o.op ≠ some .bad) : (Jv P a o ops).guard = none := by
 unfold Jv at hb ⊢
 cases hg : Xd o ops with
 | none => rfl
 | some gd =>
  cases ht : jw P a o.op with
  | none => rfl
  | some op =>
   simp only [hg, ht] at hb ⊢
   by_cases hm : (op.mute && o.dst.isSome) = true
   ·simp only [hm, if_true]
   ·simp only [hm] at hb
    have hb' : op = .bad := hb
    subst hb'
    exact absurd ht hn
theorem qp {P : Program} {a : yb} {op : Op} : jw P a op ≠ some .bad := by
 intro h
 cases op <;> simp only [jw, bind] at h
 all_goals (repeat' split at h)
 all_goals first
  | (simp [Option.bind_eq_some_iff] at h; done)
  | exact absurd (by assumption : _ = Op.call _) (by simp)
  | (simp only [Option.bind_eq_some_iff] at h; obtain ⟨_, _, h⟩ := h; (repeat' split at h); all_goals simp [Option.bind_eq_some_iff] at h)
  | (simp only [Option.bind_eq_some_iff] at h; obtain ⟨_, _, _, _, _, _, h⟩ := h; split at h <;> simp [Option.bind_eq_some_iff] at h)
theorem pV (h : AV T g w tss s ts) {t : Nat} {bb : Bool} (hs : s.slot t = .d (.bool bb)) : ts[t]? = some (.bool bb) := by
 have hr := h.slot t
 rw [hs] at hr
 have := hr.bool rfl
 unfold Array.getD at this
 split at this
 ·rename_i hlt
  rw [Array.getElem?_eq_getElem hlt]
  simpa using this
 ·simp [Go.undef] at this
theorem mq (h : AV T g w tss s ts) {t : Nat} (hs : s.slot t = .d .undef) : ts[t]? = none ∨ ts[t]? = some Go.undef := by
 have hr := h.slot t
 rw [hs] at hr
 have hv := hr.dinv
 unfold Array.getD at hv
 split at hv
 ·rename_i hlt
  right
  rw [Array.getElem?_eq_getElem hlt]
  simp only [Array.getInternal_eq_getElem] at hv
  generalize ts[t] = u at hv ⊢
  cases hv; rfl
 ·rename_i hlt
  left
  simp [hlt]
theorem t4 (hC : ON T C) (hR : MU T C) (hk : b.kind ≠ .early) (h : AV T g w tss s ts) {o : Oper} {a : yb} (hoi : ops[i]? = some o) (hd : ∀ d, o.dst = some d → d < ts.size)
  (hgi : gi < s.ctr) (hg : g.gb gi = none) (he : Ai T.LP C gi (Jv T.P a o ops) s = some s') :
  Dt T.P (lone (b.atR ⟨ts, df⟩ (.inRegion ops (i :: rest) :: k)) cs w) (Xe T g w tss s s' ts o.dst gi fun ts' w' => lone (b.atR ⟨ts', df⟩ (.inRegion ops rest :: k)) cs w') := by
 have hb : (Jv T.P a o ops).op ≠ .bad := fun hb => dx (mD hb qp) hb he
 obtain ⟨h1, h2, h3, h4⟩ := i6 hb
 unfold Ai at he
 rcases h4 with ⟨hg1, hg2⟩ | ⟨j, want, t, hg1, hj, hg2⟩
 ·rw [hg2] at he
  exact ZU hC hR hk h hoi h1 h2 h3 hd hgi hg (by simp [Region.wanted, hg1]) (by unfold Ew; exact he)
 ·rw [hg2] at he
  simp only at he
  split at he
  ·rename_i bb hs
   have hy : yielded ops ts j = some bb := by
    simp only [yielded, hj, Option.bind_some, pV h hs]
   split at he
   ·rename_i hbw
    subst hbw
    exact ZU hC hR hk h hoi h1 h2 h3 hd hgi hg (by simp [Region.wanted, hg1, hy]) (by unfold Ew; exact he)
   ·rename_i hbw
    rw [h1] at he
    exact lR h hoi hd (by simp [Region.wanted, hg1, hy, hbw]) he
  ·rename_i hs
   have hy : yielded ops ts j = none := by
    rcases mq h hs with e | e <;> simp [yielded, hj, e, Go.undef]
   rw [h1] at he
   exact lR h hoi hd (by simp [Region.wanted, hg1, hy]) he
  ·simp at he
theorem lu (P : Program) (r : W8) (ops : Array Oper) {i : Nat} {o : Oper} (h : ops[i]? = some o) : (Sz P r ops).getD i default = Jv P ((r.anns.lookup i).getD {}) o ops := by
 have hi : i < ops.size := (Array.getElem?_eq_some_iff.1 h).1
 unfold Sz
 rw [List.getD_eq_getElem?_getD, List.getElem?_map, List.getElem?_range hi]
 simp only [Option.map_some, Option.getD_some]
 congr 1
 rw [Array.getD_eq_getD_getElem?, h]; rfl
theorem nL (hC : ON T C) (hR : MU T C) (hk : b.kind ≠ .early) {r : W8} {c : Nat} (hdst : ∀ (i : Nat) (o : Oper), ops[i]? = some o → ∀ d, o.dst = some d → d < ts.size) :
  ∀ (σ : List Nat) {g : Gh} {w : World} {s s' : St} {ts' : Array Value}, ts'.size = ts.size → AV T g w tss s ts' → σ.Nodup → (∀ i, i ∈ σ → i < ops.size ∧ g.gb (c + i) = none ∧ c + i < s.ctr) →
   Dv T.LP C c (Sz T.P r ops) σ s = some s' →
   Dt T.P (lone (b.atR ⟨ts', df⟩ (.inRegion ops σ :: k)) cs w) fun m' => ∃ g' w' ts'', m' = lone (b.atR ⟨ts'', df⟩ (.inRegion ops [] :: k)) cs w' ∧ ts''.size = ts.size ∧ QV g w g' w' ∧ AV T g' w' tss s' ts'' ∧
    (∀ n, n < s.ctr → (∀ i, i ∈ σ → n ≠ c + i) → g'.gb n = g.gb n) ∧ s.ctr ≤ s'.ctr
 | [], g, w, s, s', ts', hsz, h, _, _, he => by
  simp only [Dv, Option.some.injEq] at he
  subst he
  exact Dt.here ⟨g, w, ts', rfl, hsz, .refl g w, h, fun _ _ _ => rfl, Nat.le_refl _⟩
 | i :: σ, g, w, s, s', ts', hsz, h, hn, hσ, he => by
  simp only [Dv] at he
  split at he
  ·rename_i s1 h1
   obtain ⟨hi, hgi, hci⟩ := hσ i (by simp)
   have hoi : ops[i]? = some ops[i] := Array.getElem?_eq_getElem hi
   rw [lu T.P r ops hoi] at h1
   refine (t4 (k := k) (cs := cs) (df := df) (rest := σ) hC hR hk h hoi (fun d hd => by rw [hsz]; exact hdst i _ hoi d hd) hci hgi h1).bind fun m' hm' => ?_
   obtain ⟨g1, w1, v, rfl, hk1, hi1, hg1, hc1⟩ := hm'
   obtain ⟨hni, hn'⟩ := List.nodup_cons.1 hn
   refine (nL hC hR hk hdst σ (by rw [pm, hsz]) hi1 hn' (fun j hj => ?_) he).mono fun m' hm' => ?_
   ·obtain ⟨a1, a2, a3⟩ := hσ j (by simp [hj])
    have hne : c + j ≠ c + i := fun e => hni ((show j = i by omega) ▸ hj)
    exact ⟨a1, by rw [hg1 _ a3 hne]; exact a2, Nat.lt_of_lt_of_le a3 hc1⟩
   ·obtain ⟨g2, w2, ts2, e, hs2, hk2, hi2, hg2, hc2⟩ := hm'
    exact ⟨g2, w2, ts2, e, hs2, hk1.trans hk2, hi2, fun n hn hne => by
     rw [hg2 n (Nat.lt_of_lt_of_le hn hc1) fun j hj => hne j (by simp [hj]), hg1 n hn (hne i (by simp))], Nat.le_trans hc1 hc2⟩
  ·simp at he
theorem We (LP : A2) (C : AP) (c : Nat) (los : List AH) : ∀ (n i : Nat) (s : St), i + n = los.length →
  evalOps LP C (c + i) (los.drop i) s = Dv LP C c los (List.range' i n) s
 | 0, i, s, h => by
  rw [List.drop_of_length_le (by omega)]
  rfl
 | n + 1, i, s, h => by
  have hi : i < los.length := by omega
  rw [List.drop_eq_getElem_cons hi, List.range'_succ]
  simp only [evalOps, Dv, List.getD_eq_getElem?_getD, List.getElem?_eq_getElem hi, Option.getD_some]
  cases Ai LP C (c + i) los[i] s with
  | none => rfl
  | some s1 => exact We LP C c los n (i + 1) s1 (by omega)
theorem dL (LP : A2) (C : AP) (c : Nat) (los : List AH) (s : St) : evalOps LP C c los s = Dv LP C c los (List.range los.length) s := by
 have := We LP C c los los.length 0 s (by omega)
 rw [List.range_eq_range']
 simpa using this
theorem AV.congr (h : AV T g w tss s ts) {r : St} (he : ZW s r) : AV T g w tss r ts :=
 ⟨by rw [← he.ctr]; exact h.winv, by rw [← he.low]; exact h.stack, fun t sl hs => by rw [← he.low]; exact h.env t sl (by rw [he.env]; exact hs)⟩
end
end Go.Lf
namespace Go.Lf
open Go
section
variable {T : Tables} {g : Gh} {w : World} {tss : List (Array Value)} {s s' : St} {ts : Array Value} {df : List Deferred} {C : AP}
variable {b : Frame} {k : List Item} {cs : List Frame} {ops : Array Oper}
theorem AV.sameHeap (h : AV T g w tss s ts) {w0 : World} (hw0 : w0.heap = w.heap) : AV T g w0 tss s ts := by
 refine h.move (g' := g) (w' := w0) ⟨fun b i u hu => ?_, h.winv.one, fun b es hf => ?_, fun b p hb => ?_, fun n b hb => ?_, fun b d hb => ?_, h.winv.ctr, h.winv.globs⟩ (.refl g) (fun b p _ => ⟨by rw [hw0], fun _ => rfl, rfl, rfl⟩)
 ·rw [← h.winv.im b i u hu]; exact E1 (by rw [hw0])
 ·rw [hw0]; exact h.winv.fm b es hf
 ·rw [hw0]; exact h.winv.ow b p hb
 ·rw [hw0]; exact h.winv.gb n b hb
 ·rw [hw0]; exact h.winv.lp b d hb
theorem AV.more (h : AV T g w tss s ts) {c : Nat} (hc : s.ctr ≤ c) : AV T g w tss { s with ctr := c } ts :=
 ⟨⟨h.winv.im, h.winv.one, h.winv.fm, h.winv.ow, h.winv.gb, h.winv.lp, fun n hn => h.winv.ctr n (Nat.le_trans hc hn), h.winv.globs⟩, h.stack, h.env⟩
theorem AV.keepEnv (h : AV T g w tss s ts) (ks : List Nat) : AV T g w tss { s with env := s.env.keep ks } ts := by
 refine ⟨h.winv, h.stack, fun t sl hs => ?_⟩
 simp only [RD] at hs
 split at hs
 ·exact h.env t sl hs
 ·simp at hs
theorem eh (P : Program) (r : W8) (ops : Array Oper) : (Sz P r ops).length = ops.size := by simp [Sz]
theorem mi (hC : ON T C) (hR : MU T C) (hmix : T.P.follows .mixedOrders = true) (hk : b.kind ≠ .early) {r : W8} {id n : Nat} {draw : Bool} (hdst : ∀ (i : Nat) (o : Oper), ops[i]? = some o → ∀ d, o.dst = some d → d < ts.size)
  (hdraw : draw = true → gj (Sz T.P r ops) ops = true) (h : AV T g w tss s ts) {jmp : xt} (he : Ad T.LP C n (.ops (Sz T.P r ops) r.keep) s = some (jmp, s')) :
  jmp = .normal ∧ Dt T.P (lone (b.atR ⟨ts, df⟩ (.code (.region id ops draw) :: k)) cs w) fun m' => ∃ g' w' ts', m' = lone (b.atR ⟨ts', df⟩ k) cs w' ∧ ts'.size = ts.size ∧ QV g w g' w' ∧ AV T g' w' tss s' ts' ∧
   (∀ n, n < s.ctr → g'.gb n = g.gb n) ∧ s.ctr ≤ s'.ctr := by
 simp only [Ad] at he
 split at he
 ·rename_i s1 h1
  simp only [Option.some.injEq, Prod.mk.injEq] at he
  obtain ⟨rfl, rfl⟩ := he
  refine ⟨rfl, ?_⟩
  rw [dL] at h1
  have h0 : AV T g w tss { s with ctr := s.ctr + (Sz T.P r ops).length } ts := h.more (Nat.le_add_right _ _)
  have hlen := eh T.P r ops
  have key : ∀ (σ : List Nat) (w0 : World), w0.heap = w.heap → w0.os = w.os → w0.tape = w.tape → w0.output = w.output → σ.Perm (List.range ops.size) →
    (∃ r', Dv T.LP C s.ctr (Sz T.P r ops) σ { s with ctr := s.ctr + (Sz T.P r ops).length } = some r' ∧ ZW s1 r') →
    Dt T.P (lone (b.atR ⟨ts, df⟩ (.inRegion ops σ :: k)) cs w0) fun m' => ∃ g' w' ts', m' = lone (b.atR ⟨ts', df⟩ k) cs w' ∧ ts'.size = ts.size ∧ QV g w g' w' ∧
     AV T g' w' tss { s1 with env := s1.env.keep r.keep } ts' ∧ (∀ n, n < s.ctr → g'.gb n = g.gb n) ∧ s.ctr ≤ s1.ctr := by
   intro σ w0 hw0 ho0 ht0 hp0 hperm hev
   obtain ⟨r', hev, heq⟩ := hev
   have hin0 := h0.sameHeap hw0
   refine (nL (k := k) (cs := cs) (df := df) hC hR hk hdst σ rfl hin0 (hperm.nodup_iff.2 List.nodup_range) (fun i hi => ?_) hev).bind fun m' hm' => ?_
   ·have hi' : i < ops.size := List.mem_range.1 (hperm.subset hi)
    exact ⟨hi', h.winv.ctr _ (by omega), by simp only [hlen]; omega⟩
   ·obtain ⟨g', w', ts', rfl, hsz, hkept, hinv, hg, hc⟩ := hm'
    refine Dt.step stepR_region_end (Dt.here ⟨g', w', ts', rfl, hsz, ?_, ((hinv.congr heq.symm).keepEnv _), fun n hn => hg n (by simp only; omega) fun i _ => by omega, ?_⟩)
    ·exact ⟨hkept.le, fun b hb ho => by
      have := hkept.unch b (by rw [hw0]; exact hb) ho
      exact ⟨by rw [this.heap, hw0], this.im, this.fm, this.ow⟩, by rw [← hw0]; exact hkept.size, by rw [hkept.os, ho0], by rw [hkept.tape, ht0], by rw [hkept.output, hp0], fun b => by rw [hkept.frz]; unfold S8; rw [hw0]⟩
    ·rw [heq.ctr]
     simp only at hc; omega
  rw [show List.range (Sz T.P r ops).length = List.range ops.size by rw [hlen]] at h1
  cases draw with
  | false => exact Dt.step stepR_region (key _ w rfl rfl rfl rfl (.refl _) ⟨s1, h1, .refl _⟩)
  | true =>
   refine Dt.step stepR_region_draw ?_
   have hsch : Region.schedule (T.P.follows .mixedOrders) ops (w.tape w.drawn (.order b.fn id)) = Region.linearise .any ops (w.tape w.drawn (.order b.fn id)) := by
    simp [Region.schedule, hmix]
   rw [hsch]
   obtain ⟨hp, hap⟩ := l3 (hdraw rfl) (w.tape w.drawn (.order b.fn id))
   refine key _ _ rfl rfl rfl rfl hp (Si T.LP C s.ctr _ _ (List.range ops.size) hp (fun i j hi hj hne hl hs => ?_) List.nodup_range h1)
   refine hap i j ?_ (List.mem_range.1 hj) hs
   obtain ⟨x, y, hxy, hjy⟩ := hl
   have hsorted : (List.range ops.size).Pairwise (· < ·) := List.pairwise_lt_range
   rw [hxy] at hsorted
   exact (List.pairwise_cons.1 (List.pairwise_append.1 hsorted).2.1).1 j hjy
 ·simp at he
def bu (ds : List Nat) : List Deferred := ds.map fun d => { target := .collected d, args := #[] }
structure mQ (g : Gh) (w : World) (b : Frame) (df : List Deferred) (base : Nat) : Prop where
 floor : base ≤ w.heap.size
 kind : (b.roundOf = none ∧ ∃ ds : List Nat, df = bu ds ∧ ds.Nodup ∧ ∀ d, d ∈ ds → base ≤ d ∧ d < w.heap.size ∧ g.ow d = none ∧ w.heap[d]? = some (.deferred (some []))) ∨
  (df = [] ∧ ∃ l d, b.roundOf = some l ∧ g.lp l = some d)
theorem mQ.keep {base : Nat} (h : mQ g w b df base) {g' : Gh} {w' : World} (hk : QV g w g' w') : mQ g' w' b df base := by
 refine ⟨Nat.le_trans h.floor hk.size, ?_⟩
 rcases h.kind with ⟨h1, ds, h2, h3, h4⟩ | ⟨h1, l, d, h2, h3⟩
 ·refine .inl ⟨h1, ds, h2, h3, fun d hd => ?_⟩
  obtain ⟨a1, a2, a3, a4⟩ := h4 d hd
  have hu := hk.unch d a2 a3
  exact ⟨a1, Nat.lt_of_lt_of_le a2 hk.size, by rw [hu.ow]; exact a3, by rw [hu.heap]; exact a4⟩
 ·exact .inr ⟨h1, l, d, h2, hk.le.lp _ _ h3⟩
def TP (b : Frame) (cs : List Frame) (k : List Item) (ts : Array Value) (df : List Deferred) (w : World) (m' : Machine) : xt → Prop
 | .normal => m' = lone (b.atR ⟨ts, df⟩ k) cs w
 | .exit id => ∃ k', m' = lone (b.atR ⟨ts, df⟩ (.code (.exit id) :: k')) cs w ∧ exitTo id k' = exitTo id k
 | .ret => ∃ k', m' = lone (b.atR ⟨ts, df⟩ (.code .ret :: k')) cs w
def O9 (T : Tables) (g : Gh) (w : World) (tss : List (Array Value)) (ctr : Nat) (s' : St) (size : Nat) (b : Frame) (base : Nat) (cs : List Frame) (k : List Item) (jmp : xt) (m' : Machine) : Prop :=
 ∃ g' w' ts' df', QV g w g' w' ∧ AV T g' w' tss s' ts' ∧ ts'.size = size ∧ mQ g' w' b df' base ∧ (∀ n, n < ctr → g'.gb n = g.gb n) ∧ ctr ≤ s'.ctr ∧ TP b cs k ts' df' w' m' jmp
end
end Go.Lf
namespace Go.Lf
open Go
section
variable {T : Tables} {g : Gh} {w : World} {tss : List (Array Value)} {s s' : St} {ts : Array Value} {df : List Deferred} {C : AP}
variable {b : Frame} {k : List Item} {cs : List Frame} {ops : Array Oper}
def Gh.loop (g : Gh) (l j gen D : Nat) : Gh :=
 { g with ow := fun c => if c = l then some (.loop j) else g.ow c, gb := fun n => if n = gen then some l else g.gb n, lp := fun c => if c = l then some D else g.lp c }
structure vq (w w1 : World) (l D : Nat) (rc : Loop) : Prop where
 old : ∀ b, b < w.heap.size → w1.heap[b]? = w.heap[b]?
 new : w.heap.size ≤ l
 here : w1.heap[l]? = some (.loop rc)
 defers : rc.defers = D
 size : w.heap.size ≤ w1.heap.size
 os : w1.os = w.os
 tape : w1.tape = w.tape
 output : w1.output = w.output
 frz : ∀ b, S8 w1 b = S8 w b
theorem tV (hW : Jl T g w s.ctr) {w1 : World} {l D : Nat} {rc : Loop} (hl : vq w w1 l D rc) (j : Nat) : g.Le (g.loop l j s.ctr D) :=
 ⟨fun _ _ _ h => h, fun _ _ h => h, fun n b h => by
  simp only [Gh.loop]
  split
  ·rename_i e; subst e; rw [hW.ctr _ (Nat.le_refl _)] at h; simp at h
  ·exact h, fun c d h => by
  simp only [Gh.loop]
  split
  ·rename_i e; subst e
   obtain ⟨r, hr, _⟩ := hW.lp _ _ h
   have := (Array.getElem?_eq_some_iff.1 hr).1
   have := hl.new
   omega
  ·exact h⟩
theorem oW {w1 : World} {l D : Nat} {rc : Loop} (hl : vq w w1 l D rc) (j gen : Nat) {c : Nat} (hc : c < w.heap.size) : PR g w (g.loop l j gen D) w1 c :=
 ⟨hl.old c hc, fun _ => rfl, rfl, by simp only [Gh.loop]; rw [if_neg (by have := hl.new; omega)]⟩
theorem oe (h : Jl T g w s.ctr) {w1 : World} {l D : Nat} {rc : Loop} (hl : vq w w1 l D rc) (j : Nat) : Jl T (g.loop l j s.ctr D) w1 (s.ctr + 1) where
 im b i u hu := by
  have := h.im b i u hu
  exact (E1 (a := ⟨b, i, none⟩) (hl.old _ (il this))).trans this
 one := h.one
 fm b es hf := by
  obtain ⟨c, hc⟩ := h.fm b es hf
  exact ⟨c, by rw [hl.old _ (Array.getElem?_eq_some_iff.1 hc).1]; exact hc⟩
 ow b p hb := by
  simp only [Gh.loop] at hb
  split at hb
  ·rename_i e; subst e; exact (Array.getElem?_eq_some_iff.1 hl.here).1
  ·exact Nat.lt_of_lt_of_le (h.ow b p hb) hl.size
 gb n b hb := by
  simp only [Gh.loop] at hb
  split at hb
  ·simp only [Option.some.injEq] at hb; subst hb; exact (Array.getElem?_eq_some_iff.1 hl.here).1
  ·exact Nat.lt_of_lt_of_le (h.gb n b hb) hl.size
 lp c d hb := by
  simp only [Gh.loop] at hb
  split at hb
  ·rename_i e; subst e
   simp only [Option.some.injEq] at hb
   exact ⟨rc, hl.here, by rw [hl.defers, hb]⟩
  ·obtain ⟨r, hr, hd⟩ := h.lp c d hb
   exact ⟨r, by rw [hl.old _ (Array.getElem?_eq_some_iff.1 hr).1]; exact hr, hd⟩
 ctr n hn := by
  simp only [Gh.loop]
  rw [if_neg (by omega)]
  exact h.ctr n (by omega)
 globs n := h.globs n
theorem VE {P : Program} {fn : FuncId} {ps : Array Tmp} {as bd : Code} :
  (Instr.enterLoop fn ts ps as bd none).run P w = .ok (w.heap.size + 1, [{ target := .collected w.heap.size, args := #[] }])
   (World.push (World.push w (.deferred (some []))) (.loop { state := .ready, pending := none, fn, tmps := ts, params := ps, assign := as, body := bd, defers := w.heap.size })) := by
 simp [Instr.enterLoop, World.push]
 rfl
theorem QP {P : Program} {fn : FuncId} {ps : Array Tmp} {as bd : Code} {l0 : Nat} {r0 : Loop} (h : w.heap[l0]? = some (.loop r0)) :
  (Instr.enterLoop fn ts ps as bd (some l0)).run P w = .ok (w.heap.size, [])
   (World.push w (.loop { state := .ready, pending := none, fn, tmps := ts, params := ps, assign := as, body := bd, defers := r0.defers })) := by
 simp [Instr.enterLoop, Instr.getLoop, getObj, Sem.run, h, World.push, newObj, Sem.bind, bind, pure]
theorem lr {base : Nat} (hW : Jl T g w s.ctr) (hdf : mQ g w b df base) {ps : Array Tmp} {as bd : Code} :
  ∃ l D mk w1, (Instr.enterLoop b.fn ts ps as bd b.roundOf).run T.P w = .ok (l, mk) w1 ∧
   vq w w1 l D { state := .ready, pending := none, fn := b.fn, tmps := ts, params := ps, assign := as, body := bd, defers := D } ∧
   ∀ g', QV g w g' w1 → (∀ c, c ≠ l → g'.ow c = g.ow c) → mQ g' w1 b (mk ++ df) base := by
 rcases hdf.kind with ⟨h1, ds, h2, h3, h4⟩ | ⟨h1, l0, d0, h2, h3⟩
 ·have hsz : (World.push (World.push w (.deferred (some []))) (.loop { state := .ready, pending := none, fn := b.fn, tmps := ts, params := ps, assign := as, body := bd, defers := w.heap.size })).heap.size = w.heap.size + 2 := by
   rw [Eq, Eq]
  have hold : ∀ c, c < w.heap.size → (World.push (World.push w (.deferred (some []))) (.loop { state := .ready, pending := none, fn := b.fn, tmps := ts, params := ps, assign := as, body := bd, defers := w.heap.size })).heap[c]? = w.heap[c]? := fun c hc => by
   rw [ID (by rw [Eq]; omega), ID hc]
  have hD : (World.push (World.push w (.deferred (some []))) (.loop { state := .ready, pending := none, fn := b.fn, tmps := ts, params := ps, assign := as, body := bd, defers := w.heap.size })).heap[w.heap.size]? = some (.deferred (some [])) := by
   rw [ID (by rw [Eq]; omega), MN]
  refine ⟨w.heap.size + 1, w.heap.size, _, _, by rw [h1]; exact VE, ⟨hold, by omega, ?_, rfl, by rw [hsz]; omega, rfl, rfl, rfl, fun c => by rw [WA rfl, WA rfl]⟩, fun g' hk hgo => ⟨by rw [hsz]; have := hdf.floor; omega, .inl ⟨h1, w.heap.size :: ds, by rw [h2]; rfl, ?_, fun d hd => ?_⟩⟩⟩
  ·have := MN (w := World.push w (.deferred (some []))) (o := .loop { state := .ready, pending := none, fn := b.fn, tmps := ts, params := ps, assign := as, body := bd, defers := w.heap.size })
   rw [Eq] at this
   exact this
  ·refine List.nodup_cons.2 ⟨fun hm => ?_, h3⟩
   have := (h4 _ hm).2.1
   omega
  ·rcases List.mem_cons.1 hd with rfl | hd
   ·refine ⟨hdf.floor, by rw [hsz]; omega, ?_, hD⟩
    rw [hgo _ (by omega)]
    exact hW.ow_fresh (Nat.le_refl _)
   ·obtain ⟨a1, a2, a3, a4⟩ := h4 d hd
    exact ⟨a1, by rw [hsz]; omega, by rw [hgo _ (by omega)]; exact a3, by rw [hold d a2]; exact a4⟩
 ·obtain ⟨r0, hr0, hrd⟩ := hW.lp _ _ h3
  refine ⟨w.heap.size, r0.defers, [], _, by rw [h2]; exact QP hr0, ⟨fun c hc => ID hc, Nat.le_refl _, MN, rfl, by rw [Eq]; omega, rfl, rfl, rfl, fun c => WA rfl c⟩, fun g' hk _ => ⟨by rw [Eq]; have := hdf.floor; omega, .inr ⟨by simpa using h1, l0, d0, h2, hk.le.lp _ _ h3⟩⟩⟩
theorem i7 {P : Program} {l : Nat} {r : Loop} (h : w.heap[l]? = some (.loop r)) (hs : r.state ≠ .busy) :
  (Instr.endLoop l).run P w = .ok r.pending (AE w l (.loop { r with state := .exhausted })) := by
 simp [Instr.endLoop, Instr.getLoop, getObj, setObj, Sem.run, h, hs, AE, Sem.bind, bind, pure]
theorem rA {r : Lx} (hp : ∀ q, r.pending = some q → q ≠ .normal) : ((r.pending.bind xt.code).map Item.code).toList = match r.pending.getD .normal with
  | .normal => []
  | .exit id => [Item.code (.exit id)]
  | .ret => [Item.code .ret] := by
 cases hq : r.pending with
 | none => rfl
 | some q =>
  cases q with
  | normal => exact absurd rfl (hp _ hq)
  | exit id => rfl
  | ret => rfl
theorem sn (hC : ON T C) {f : Func} (hf : T.P.funcs[b.fn]? = some f) (hsz : f.ntmps = ts.size) {fo : Operand} {fx : yV} {ps : Array Tmp} {as bd : Code} {base n : Nat}
  (hfo : Aq fo = some fx) (hps : ∀ t, t ∈ ps.toList → t < f.ntmps) (has : Gz T.P (T.ann b.fn) f.ntmps as = true) (hbd : Gz T.P (T.ann b.fn) f.ntmps bd = true)
  (h : AV T g w tss s ts) (hdf : mQ g w b df base) {jmp : xt}
  (he : Ad T.LP C n (.rng fx ps.toList (DK T.P (T.ann b.fn) as) (DK T.P (T.ann b.fn) bd)) s = some (jmp, s')) :
  Dt T.P (lone (b.atR ⟨ts, df⟩ (.code (.rangeFunc fo ps as bd) :: k)) cs w) (O9 T g w tss s.ctr s' ts.size b base cs k jmp) := by
 simp only [Ad] at he
 have hF := h.val (df := df) hfo
 split at he
 ·rename_i f' a' b' ht
  obtain ⟨va, vb, hval, ra, rb⟩ := TJ hF ht
  split at he
  ·rename_i v0 low' c' hcall
   split at he
   ·rename_i env r hlast
    split at he
    ·rename_i hcond
     obtain ⟨hlen, hgen, hrp⟩ := hcond
     simp only [Option.some.injEq, Prod.mk.injEq] at he
     obtain ⟨rfl, rfl⟩ := he
     obtain ⟨l, D, mk, w1, hent, hl, hdf1⟩ := lr (T := T) (ts := ts) (ps := ps) (as := as) (bd := bd) h.winv hdf
     obtain ⟨⟨fn', hfn', hname, hbody⟩, hgo⟩ := hC _ _ _ _ _ _ _ hcall
     let g1 := g.loop l s.low.length s.ctr D
     have hle : g.Le g1 := tV h.winv hl _
     have hW1 : Jl T g1 w1 (s.ctr + 1) := oe h.winv hl _
     have hun : ∀ c, c < w.heap.size → PR g w g1 w1 c := fun c hc => oW hl _ _ hc
     have hk1 : QV g w g1 w1 := ⟨hle, fun c hc _ => hun c hc, hl.size, hl.os, hl.tape, hl.output, hl.frz⟩
     have hgl : g1.gb s.ctr = some l := by simp [g1, Gh.loop]
     have hS1 : HA T g1 w1 (tss ++ [ts]) (s.low ++ [{ env := s.env, loop := some { gen := s.ctr, params := ps.toList, assign := DK T.P (T.ann b.fn) as, body := DK T.P (T.ann b.fn) bd, ready := true, pending := none } }]) := by
      refine ⟨by simp [h.stack.len], fun j ts' fr h1 h2 => ?_⟩
      by_cases hj : j < s.low.length
      ·rw [List.getElem?_append_left hj] at h2
       rw [List.getElem?_append_left (by rw [h.stack.len]; exact hj)] at h1
       exact (h.stack.fr j ts' fr h1 h2).keep hle fun c p hc _ => hun c (h.winv.ow c p hc)
      ·have hl2 := (List.getElem?_eq_some_iff.1 h2).1
       simp only [List.length_append, List.length_singleton] at hl2
       obtain rfl : j = s.low.length := by omega
       have h2' := h2
       simp only [List.getElem?_append_right (Nat.le_refl _), Nat.sub_self, List.getElem?_cons_zero, Option.some.injEq] at h2'
       have h1' : ts' = ts := by
        rw [← h.stack.len] at h1; simpa using h1.symm
       subst h2'; subst h1'
       refine ⟨fun t sl hs => (h.env t sl hs).keep hle fun c i hc => hun c (h.winv.ow c _ hc), fun r0 hr0 => ?_⟩
       simp only [Option.some.injEq] at hr0
       subst hr0
       refine ⟨l, b.fn, ps, as, bd, D, hgl, by simp [g1, Gh.loop], by simp [g1, Gh.loop], ?_, rfl, fun q hq => by simp at hq, f, hf, hsz, has, hbd, hps, rfl, rfl⟩
       exact hl.here
     have hargs : EI g1 (va ++ #[.func (.yield l) #[] #[]] ++ vb) (a' ++ [.yield s.low.length s.ctr] ++ b') := by
      have up : ∀ {vs : Array Value} {xs : List LV}, EI g vs xs → EI g1 vs xs := fun h => ⟨h.size, fun i x hx => ⟨(h.rep i x hx).1.mono hle, (h.rep i x hx).2⟩⟩
      refine ((up ra).append ⟨rfl, fun i x hx => ?_⟩).append (up rb)
      cases i with
      | zero => simp only [List.getElem?_cons_zero, Option.some.injEq] at hx; subst hx; exact ⟨.yield hgl, rfl⟩
      | succ i => simp at hx
     have hres : (resolve (⟨ts, df⟩ : Act).eval (rangeCall fo l) 0).run T.P w1 = .ok { target := .fn (.func f') vb, args := va ++ #[.func (.yield l) #[] #[]] } w1 := by
      simp only [resolve, rangeCall, hval, Deferred.ofValue]
      simp [Act.eval]
     have hinv : (invoke (.fn (.func f') vb) (va ++ #[.func (.yield l) #[] #[]])).run T.P w1 = .ok (.enter f' (va ++ #[.func (.yield l) #[] #[]] ++ vb)) w1 := by
      simp only [invoke, Uy hfn' hname hbody]
     refine Dt.step (stepR_rangeFunc hent hres hinv) ((hgo g1 w1 _ _ hW1 hS1 hargs _).bind fun m' hm' => ?_)
     obtain ⟨fr', w2, v2, g2, rfl, hff, hleave, _, _, ha⟩ := hm'
     refine Dt.step (step_leave_returned hleave) ?_
     rw [finish_atR_inRangeFunc]
     have hlast' : low'[s.low.length]? = some { env, loop := some r } := by
      rw [List.getLast?_eq_getElem?, hlen] at hlast
      simpa using hlast
     have htop : (tss ++ [ts])[s.low.length]? = some ts := by rw [← h.stack.len]; simp
     have hfr := ha.stack.fr s.low.length ts _ htop hlast'
     obtain ⟨l2, fn2, ps2, as2, bd2, df2, e1, e2, e3, e4, e5, e6, _⟩ := hfr.loop r rfl
     have hl2 : l2 = l := by
      rw [hgen] at e1
      have := ha.kept.le.gb _ _ hgl
      rw [this] at e1
      simpa using e1.symm
     subst hl2
     have hst : (DJ r.ready r.pending) ≠ LoopState.busy := by
      unfold DJ
      rcases hrp with h1 | h1
      ·simp [h1]
      ·cases hq : r.pending with
       | none => rw [hq] at h1; simp at h1
       | some q => by_cases hr : r.ready = true <;> simp [hr]
     refine Dt.step (stepR_endRangeFunc (i7 e4 hst)) (Dt.here ?_)
     have hlw2 : l2 < w2.heap.size := (Array.getElem?_eq_some_iff.1 e4).1
     have hlnew := hl.new
     have hset : ∀ c, c ≠ l2 → (AE w2 l2 (.loop { ({ state := DJ r.ready r.pending, pending := r.pending.bind xt.code, fn := fn2, tmps := ts, params := ps2, assign := as2, body := bd2, defers := df2 } : Loop) with state := .exhausted })).heap[c]? = w2.heap[c]? := fun c hc => by
      rw [Az _ _ _ _ hlw2, if_neg hc]
     have hW3 : Jl T g2 (AE w2 l2 (.loop { ({ state := DJ r.ready r.pending, pending := r.pending.bind xt.code, fn := fn2, tmps := ts, params := ps2, assign := as2, body := bd2, defers := df2 } : Loop) with state := .exhausted })) c' := by
      refine ⟨fun c i u hu => ?_, ha.winv.one, fun c es hc => ?_, fun c p hc => by simpa [AE] using ha.winv.ow c p hc, fun m c hc => by simpa [AE] using ha.winv.gb m c hc, fun c d hc => ?_, ha.winv.ctr, ha.winv.globs⟩
      ·have hcell := ha.winv.im c i u hu
       have hne : c ≠ l2 := fun e => by subst e; simp [World.cell?, e4] at hcell
       exact (E1 (a := ⟨c, i, none⟩) (hset c hne)).trans hcell
      ·obtain ⟨cl, hcl⟩ := ha.winv.fm c es hc
       have hne : c ≠ l2 := fun e => by subst e; rw [e4] at hcl; simp at hcl
       exact ⟨cl, by rw [hset c hne]; exact hcl⟩
      ·obtain ⟨r3, hr3, hd3⟩ := ha.winv.lp c d hc
       by_cases hcl : c = l2
       ·subst hcl
        rw [e4] at hr3
        simp only [Option.some.injEq, Obj.loop.injEq] at hr3
        refine ⟨_, by rw [Az _ _ _ _ hlw2, if_pos rfl], ?_⟩
        rw [← hd3, ← hr3]
       ·exact ⟨r3, by rw [hset c hcl]; exact hr3, hd3⟩
     have hun2 : ∀ c p, g2.ow c = some p → p ≠ .loop s.low.length → PR g2 w2 g2 (AE w2 l2 (.loop { ({ state := DJ r.ready r.pending, pending := r.pending.bind xt.code, fn := fn2, tmps := ts, params := ps2, assign := as2, body := bd2, defers := df2 } : Loop) with state := .exhausted })) c := fun c p hc hp =>
      ⟨hset c fun e => by subst e; rw [e3] at hc; simp only [Option.some.injEq] at hc; exact hp hc.symm, fun _ => rfl, rfl, rfl⟩
     have hlen' : (low'.dropLast).length = s.low.length := by simp [hlen]
     have hkall : QV g w g2 (AE w2 l2 (.loop { ({ state := DJ r.ready r.pending, pending := r.pending.bind xt.code, fn := fn2, tmps := ts, params := ps2, assign := as2, body := bd2, defers := df2 } : Loop) with state := .exhausted })) := by
      have hk := hk1.trans ha.kept
      exact ⟨hk.le, fun c hc ho => by
       have := hk.unch c hc ho
       exact ⟨by rw [hset c (by omega)]; exact this.heap, this.im, this.fm, this.ow⟩, by simpa [AE] using hk.size, hk.os, hk.tape, hk.output, fun c => by
       rw [← hk.frz c]
       unfold S8
       by_cases hc : c = l2
       ·subst hc; rw [Az _ _ _ _ hlw2, if_pos rfl, e4]; rfl
       ·rw [hset c hc]⟩
     have hdfk : mQ g2 (AE w2 l2 (.loop { ({ state := DJ r.ready r.pending, pending := r.pending.bind xt.code, fn := fn2, tmps := ts, params := ps2, assign := as2, body := bd2, defers := df2 } : Loop) with state := .exhausted })) b (mk ++ df) base := by
      have hd1 : mQ g1 w1 b (mk ++ df) base := hdf1 g1 hk1 fun c hc => by simp [g1, Gh.loop, hc]
      have hd2 := hd1.keep ha.kept
      refine ⟨by simpa [AE] using hd2.floor, ?_⟩
      rcases hd2.kind with ⟨q1, ds, q2, q3, q4⟩ | q
      ·refine .inl ⟨q1, ds, q2, q3, fun d hd => ?_⟩
       obtain ⟨z1, z2, z3, z4⟩ := q4 d hd
       have hne : d ≠ l2 := fun e => by subst e; rw [e4] at z4; simp at z4
       exact ⟨z1, by simpa [AE] using z2, z3, by rw [hset d hne]; exact z4⟩
      ·exact .inr q
     refine ⟨g2, _, ts, mk ++ df, hkall, ⟨hW3, ⟨by rw [hlen', h.stack.len], fun j ts' fr3 h1 h2 => ?_⟩, fun t sl hs => ?_⟩, rfl, hdfk, fun m hm => ?_, ?_, ?_⟩
     ·have hj : j < s.low.length := by rw [← hlen']; exact (List.getElem?_eq_some_iff.1 h2).1
      have h2' : low'[j]? = some fr3 := by
       rw [List.getElem?_dropLast] at h2
       split at h2
       ·exact h2
       ·simp at h2
      have h1' : (tss ++ [ts])[j]? = some ts' := by rw [List.getElem?_append_left (by rw [h.stack.len]; exact hj)]; exact h1
      exact (ha.stack.fr j ts' fr3 h1' h2').keep (.refl g2) fun c p hc hp => hun2 c p hc fun e => by subst e; simp only [Du.level] at hp; omega
     ·simp only [hlen']
      exact (hfr.env t sl hs).keep (.refl g2) fun c i hc => hun2 c _ hc (by simp)
     ·rw [ha.gens m (by omega)]
      simp only [g1, Gh.loop]
      rw [if_neg (by omega)]
     ·have := ha.mono
      simp only; omega
     ·rw [rA e6]
      cases hj : r.pending.getD .normal with
      | normal => rfl
      | exit id => exact ⟨k, rfl, rfl⟩
      | ret => exact ⟨k, rfl⟩
    ·simp at he
   ·simp at he
  ·simp at he
 ·simp at he
end
end Go.Lf
