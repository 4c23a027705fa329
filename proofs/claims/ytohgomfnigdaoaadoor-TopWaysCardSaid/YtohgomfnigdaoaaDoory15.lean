/- A part of the proof. -/
import Derived.Test.YtohgomfnigdaoaaDoory14
import Derived.RangeFuncLeaves
import Derived.RangeFuncIn
set_option linter.all false
namespace Go.Lf
open Go
section
variable (LP : A6)
def EJ {α : Type} (f : St → Option (α × St)) : Prop := ∀ s a s', f s = some (a, s') → s'.ctr = s.ctr
theorem EJ.bind {α β : Type} {f : St → Option (α × St)} {k : α → St → Option (β × St)} (hf : EJ f) (hk : ∀ a, EJ (k a)) : EJ (CY f k) := by
 intro s b s' h
 unfold CY at h
 split at h
 ·rename_i a s1 h1
  rw [hk a s1 b s' h, hf s a s1 h1]
 ·simp at h
theorem EJ.fail {α : Type} : EJ (fun _ => (none : Option (α × St))) := fun _ _ _ h => by simp at h
theorem JV (d : Option Nat) (x : LV) : EJ (VB d x) := by
 intro s a s' h
 simp only [VB, Option.map_eq_some_iff, Prod.mk.injEq, true_and, exists_eq_right] at h
 exact Q3 h
theorem IT (x : Opd) : EJ (rdV LP x) := by
 intro s a s' h
 simp only [rdV, Option.some.injEq, Prod.mk.injEq] at h
 rw [h.2]
theorem Lq (x : Opd) : EJ (Nk LP x) := by
 intro s a s' h
 simp only [Nk, Option.some.injEq] at h
 have := congrArg Prod.snd h
 simp only at this
 rw [← this]
 unfold St.take
 cases x with
 | tmp t => simp only; split <;> rfl
 | _ => rfl
theorem Us {α : Type} (root : Option (Option Nat)) (j t g off : Nat) (k : List LV → Option (α × List LV)) : EJ (N6 root j t g off k) := by
 intro s a s' h
 unfold N6 at h
 repeat' split at h
 all_goals first
  | (simp at h; done)
  | (simp only [Option.some.injEq, Prod.mk.injEq] at h; rw [← h.2]; exact fW)
theorem N5 {α : Type} (root : Option (Option Nat)) (j t g n : Nat) (k : List (List Int × LV) → Option (α × List (List Int × LV))) : EJ (Nh root j t g n k) := by
 intro s a s' h
 unfold Nh at h
 repeat' split at h
 all_goals first
  | (simp at h; done)
  | (simp only [Option.some.injEq, Prod.mk.injEq] at h; rw [← h.2]; exact fW)
theorem PD {α : Type} (f : St → Option α) : EJ (fun s => (f s).map fun a => (a, s)) := by
 intro s a s' h
 simp only [Option.map_eq_some_iff, Prod.mk.injEq] at h
 obtain ⟨_, _, _, rfl⟩ := h; rfl
def LOp.isStack : LOp → Bool
 | .call _ _ (some _) => true
 | _ => false
theorem qK {C : AS} {g : Nat} {o : AH} (h : o.op.isStack = false) {s s' : St} (he : E9 LP C g o s = some s') : s'.ctr = s.ctr := by
 have of : ∀ {h : St → Option (Unit × St)}, EJ h → E9 LP C g o s = (h s).map (·.2) → s'.ctr = s.ctr := by
  intro h hs hq
  rw [hq] at he
  simp only [Option.map_eq_some_iff] at he
  obtain ⟨⟨u, s1⟩, h1, rfl⟩ := he
  exact hs s u s1 h1
 obtain ⟨dst, op, guard, root⟩ := o
 by_cases hv : op.isValue = true
 ·have hadd : op.addr = none := by
   cases op <;> first | rfl | simp [LOp.isValue] at hv
  rw [Aw LP hadd, Up LP C g dst hv] at he
  simp only [Option.bind_eq_some_iff] at he
  obtain ⟨v, _, hp⟩ := he
  exact Q3 hp
 ·cases op
  case move x b =>
   cases b
   ·exact absurd rfl hv
   ·refine of (h := CY (Nk LP x) fun v => VB dst v) (EJ.bind (Lq LP x) fun v => JV _ _) ?_
    rw [Aw LP rfl]; simp only [evalOp, CY, Nk]; exact Bg _ _ _
  case alloc zs =>
   rw [Aw LP rfl] at he
   simp only [evalOp] at he
   split at he
   ·simp only [Option.some.injEq] at he; rw [← he]
   ·simp at he
  case box n x =>
   rw [Aw LP rfl] at he
   simp only [evalOp] at he
   repeat' split at he
   all_goals first
    | (simp at he; done)
    | (simp only [Option.some.injEq] at he; rw [← he])
  case mkmap n =>
   rw [Aw LP rfl] at he
   simp only [evalOp] at he
   split at he
   ·simp only [Option.some.injEq] at he; rw [← he]
   ·simp at he
  case mapset n m k v =>
   refine of ?_ (dt LP C g s)
   refine EJ.bind (IT LP _) fun mv => EJ.bind (IT LP _) fun kv => ?_
   unfold YV
   split
   ·exact EJ.bind (Lq LP _) fun xv => N5 _ _ _ _ _ _
   ·exact EJ.fail
  case mstore n m k v =>
   refine of ?_ (fJ LP C g s)
   refine EJ.bind (IT LP _) fun mv => EJ.bind (IT LP _) fun kv => ?_
   unfold XC
   split
   ·exact EJ.bind (Lq LP _) fun xv => N5 _ _ _ _ _ _
   ·exact EJ.fail
  case mentry n m k z =>
   refine of ?_ (iM LP C g s)
   refine EJ.bind (IT LP _) fun mv => EJ.bind (IT LP _) fun kv => ?_
   unfold WS
   split
   ·exact EJ.bind (N5 _ _ _ _ _ _) fun r => JV _ _
   ·exact EJ.fail
  case lookup n m k ok z =>
   refine of ?_ (eN LP C g s)
   refine EJ.bind (IT LP _) fun mv => EJ.bind (IT LP _) fun kv => EJ.bind ?_ fun r => JV _ _
   unfold dP
   split
   ·exact EJ.fail
   ·split
    ·exact PD _
    ·split
     ·exact PD fun s => some _
     ·exact EJ.fail
    ·exact PD fun s => some _
    ·exact EJ.fail
  case load k p b =>
   refine of ?_ (pp LP C g s)
   refine EJ.bind (IT LP _) fun pv => ?_
   unfold ZF
   split
   ·split
    ·exact JV _ _
    ·exact EJ.fail
   ·split
    ·exact JV _ _
    ·exact EJ.fail
   ·refine EJ.bind (PD _) fun cs => ?_
    split
    ·exact EJ.bind (Us _ _ _ _ _ _) fun _ => JV _ _
    ·split
     ·exact JV _ _
     ·exact EJ.fail
   ·exact EJ.fail
  case store n p x =>
   refine of ?_ (ka LP C g s)
   refine EJ.bind (IT LP _) fun pv => ?_
   unfold ff
   split
   ·refine EJ.bind (Lq LP _) fun xv => ?_
    split
    ·exact Us _ _ _ _ _ _
    ·exact EJ.fail
   ·exact EJ.fail
  case append sz q x y =>
   rw [Aw LP rfl] at he
   simp only [evalOp] at he
   split at he
   ·rw [Q3 he]; exact Lq LP x s _ _ rfl
   ·simp at he
  case extract i x take =>
   rw [Aw LP rfl] at he
   simp only [evalOp] at he
   repeat' split at he
   all_goals first
    | (simp at he; done)
    | (rw [Q3 he])
  case call f as vis => cases vis <;> first | exact absurd rfl hv | simp [LOp.isStack] at h
  case bad => rw [Aw LP rfl] at he; simp [evalOp] at he
  all_goals exact absurd rfl hv
end
section
variable {T : Tables} {g : Gh} {w : World} {tss : List (Array Value)} {s s' : St} {ts : Array Value} {dst : Option Nat} {gi : Nat} {df : List Deferred} {C : AS}
variable {b : Frame} {k : List Item} {cs : List Frame} {ops : Array Oper} {i : Nat} {rest : List Nat}
theorem gB {o : Oper} {ops : Array Oper} {gd : Option (Nat × Bool)} (h : XS o ops = some gd) : (o.guard = none ∧ gd = none) ∨
  ∃ j want t, o.guard = some (j, want) ∧ (ops[j]?).bind (·.dst) = some t ∧ gd = some (t, want) := by
 unfold XS at h
 split at h
 ·rename_i hg
  simp only [Option.some.injEq] at h
  exact .inl ⟨hg, h.symm⟩
 ·rename_i j want hg
  split at h
  ·rename_i t ht
   simp only [Option.some.injEq] at h
   exact .inr ⟨j, want, t, hg, ht, h.symm⟩
  ·simp at h
theorem jO {P : Program} {a : Ann} {o : Oper} {ops : Array Oper} (hb : (KP P a o ops).op ≠ .bad) : (KP P a o ops).dst = o.dst ∧ l4 P a o.op = some (KP P a o ops).op ∧
  ((KP P a o ops).op.mute = true → o.dst = none) ∧ ((o.guard = none ∧ (KP P a o ops).guard = none) ∨
   ∃ j want t, o.guard = some (j, want) ∧ (ops[j]?).bind (·.dst) = some t ∧ (KP P a o ops).guard = some (t, want)) := by
 unfold KP at hb ⊢
 cases hg : XS o ops with
 | none => simp only [hg] at hb; exact absurd rfl hb
 | some gd =>
  cases ht : l4 P a o.op with
  | none => simp only [hg, ht] at hb; exact absurd rfl hb
  | some op =>
   simp only [hg, ht] at hb ⊢
   by_cases hm : (op.mute && o.dst.isSome) = true
   ·simp only [hm, if_true] at hb; exact absurd rfl hb
   ·simp only [hm]
    refine ⟨rfl, rfl, fun h => ?_, gB hg⟩
    have h' : op.mute = true := h
    rw [h'] at hm
    cases hd : o.dst with
    | none => rfl
    | some d => simp [hd] at hm
theorem pY {P : Program} {a : Ann} {op : Op} {f : Opd} {args : List Opd} {vis : Option (List Nat)} (h : l4 P a op = some (.call f args vis)) :
  ∃ c fo, op = .call c ∧ c.callee = .value fo ∧ Av fo = some f ∧ J5 c.args = some args := by
 cases op <;> simp only [l4, bind] at h
 case call c =>
  split at h
  ·rename_i fo hc
   simp only [Option.bind_eq_some_iff, Option.some.injEq, LOp.call.injEq] at h
   obtain ⟨f', hf, args', hargs, rfl, rfl, _⟩ := h
   exact ⟨c, fo, rfl, hc, hf, hargs⟩
  all_goals (repeat' split at h)
  all_goals first
   | (simp [Option.bind_eq_some_iff] at h; done)
   | (simp only [Option.bind_eq_some_iff] at h; obtain ⟨_, _, _, _, _, _, h⟩ := h; split at h <;> simp [Option.bind_eq_some_iff] at h)
 all_goals (repeat' split at h)
 all_goals first
  | (simp [Option.bind_eq_some_iff] at h; done)
  | exact absurd (by assumption : _ = Op.call _) (by simp)
  | (simp only [Option.bind_eq_some_iff] at h; obtain ⟨_, _, h⟩ := h; (repeat' split at h); all_goals simp [Option.bind_eq_some_iff] at h)
  | (simp only [Option.bind_eq_some_iff] at h; obtain ⟨_, _, _, _, _, _, h⟩ := h; split at h <;> simp [Option.bind_eq_some_iff] at h)
  | skip
theorem nC {P : Program} {a : Ann} {op : Op} {lo : LOp} (h : l4 P a op = some lo) : ∀ c, op ≠ .defer c := by
 intro c e
 subst e
 simp [l4] at h
theorem ap (hC : OK T C) (hR : MI T C) (hk : b.kind ≠ .early) (h : AX T g w tss s ts) {o : Oper} {a : Ann} {lo : AH} (hoi : ops[i]? = some o) (hlod : lo.dst = o.dst) (htr : l4 T.P a o.op = some lo.op)
  (hmute : lo.op.mute = true → o.dst = none) (hd : ∀ d, o.dst = some d → d < ts.size) (hgi : gi < s.ctr) (hg : g.gb gi = none) (hw : Region.wanted o (yielded ops ts) = true)
  (he : E9 T.LP C gi lo s = some s') :
  D2 T.P (lone (b.atR ⟨ts, df⟩ (.inRegion ops (i :: rest) :: k)) cs w) (W8 T g w tss s s' ts o.dst gi fun ts' w' => lone (b.atR ⟨ts', df⟩ (.inRegion ops rest :: k)) cs w') := by
 have he0 := he
 unfold E9 at he
 split at he
 ·rw [hlod] at he
  by_cases hcall : lo.op.isCall = true
  ·
   cases hop : lo.op <;> rw [hop] at hcall <;> simp only [LOp.isCall, Bool.false_eq_true] at hcall
   rename_i f args vis
   rw [hop] at htr he
   clear he0
   obtain ⟨c, fo, ho, hc, hf, hargs⟩ := pY htr
   cases vis with
   | none => exact cw hC h hd hoi rfl hw ho hc hf hargs he
   | some vis => exact ZI hC hR h hd hoi rfl hw ho hc hf hargs he
  ·have hca : lo.op.isCall = false := by simpa using hcall
   have hst : lo.op.isStack = false := by
    cases hop : lo.op <;> first | rfl | (rw [hop] at hca; simp [LOp.isCall] at hca)
   have hctr := qK T.LP hst he0
   ·obtain ⟨g', w', v, hr, hkept, hinv, hgb⟩ := wC (df := df) (dst := o.dst) h hd hgi hg htr hmute hca he
    have hnd := nC htr
    have fin : W8 T g w tss s s' ts o.dst gi (fun ts' w' => lone (b.atR ⟨ts', df⟩ (.inRegion ops rest :: k)) cs w') (lone (b.atR ⟨jl ts o.dst v, df⟩ (.inRegion ops rest :: k)) cs w') :=
     ⟨g', w', v, rfl, hkept, hinv, hgb, by rw [hctr]; exact Nat.le_refl _⟩
    rcases hr with hr | ⟨hr, rfl⟩
    ·refine D2.step (nV hoi hw hnd hr) (D2.here ?_)
     rw [T0]; exact fin
    ·refine D2.step (pZ hoi hw hnd hr) (D2.here ?_)
     rw [T0]; exact fin
 ·simp at he
end
end Go.Lf
namespace Go.Lf
open Go
section
variable {T : Tables} {g : Gh} {w : World} {tss : List (Array Value)} {s s' : St} {ts : Array Value} {dst : Option Nat} {gi : Nat} {df : List Deferred} {C : AS}
variable {b : Frame} {k : List Item} {cs : List Frame} {ops : Array Oper} {i : Nat} {rest : List Nat}
theorem lz (h : AX T g w tss s ts) {o : Oper} (hoi : ops[i]? = some o) (hd : ∀ d, o.dst = some d → d < ts.size) (hw : Region.wanted o (yielded ops ts) = false)
  (he : s.put o.dst (.d .undef) = some s') :
  D2 T.P (lone (b.atR ⟨ts, df⟩ (.inRegion ops (i :: rest) :: k)) cs w) (W8 T g w tss s s' ts o.dst gi fun ts' w' => lone (b.atR ⟨ts', df⟩ (.inRegion ops rest :: k)) cs w') := by
 refine D2.step (stepR_op_skip (by rw [hoi]; simpa using hw)) (D2.here ?_)
 have : (ops[i]?).bind (·.dst) = o.dst := by rw [hoi]; rfl
 rw [this, T0]
 exact ⟨g, w, undef, rfl, .refl g w, h.put_cold he hd (.d .undef) rfl, fun _ _ _ => rfl, by rw [Q3 he]; exact Nat.le_refl _⟩
theorem fp {LP : A6} {lo : AH} {s' : St} (hg : lo.guard = none) (hb : lo.op = .bad) : Am LP C gi lo s ≠ some s' := by
 unfold Am
 rw [hg, hb]
 simp [evalOp]
theorem nL {P : Program} {a : Ann} {o : Oper} {ops : Array Oper} (hb : (KP P a o ops).op = .bad) (hn : l4 P a o.op ≠ some .bad) : (KP P a o ops).guard = none := by
 unfold KP at hb ⊢
 cases hg : XS o ops with
 | none => rfl
 | some gd =>
  cases ht : l4 P a o.op with
  | none => rfl
  | some op =>
   simp only [hg, ht] at hb ⊢
   by_cases hm : (op.mute && o.dst.isSome) = true
   ·simp only [hm, if_true]
   ·simp only [hm] at hb
    have hb' : op = .bad := hb
    subst hb'
    exact absurd ht hn
theorem sC {P : Program} {a : Ann} {op : Op} : l4 P a op ≠ some .bad := by
 intro h
 cases op <;> simp only [l4, bind] at h
 all_goals (repeat' split at h)
 all_goals first
  | (simp [Option.bind_eq_some_iff] at h; done)
  | exact absurd (by assumption : _ = Op.call _) (by simp)
  | (simp only [Option.bind_eq_some_iff] at h; obtain ⟨_, _, h⟩ := h; (repeat' split at h); all_goals simp [Option.bind_eq_some_iff] at h)
  | (simp only [Option.bind_eq_some_iff] at h; obtain ⟨_, _, _, _, _, _, h⟩ := h; split at h <;> simp [Option.bind_eq_some_iff] at h)
theorem ov (h : AX T g w tss s ts) {t : Nat} {bb : Bool} (hs : s.slot t = .d (.bool bb)) : ts[t]? = some (.bool bb) := by
 have hr := h.slot t
 rw [hs] at hr
 have := hr.bool rfl
 unfold Array.getD at this
 split at this
 ·rename_i hlt
  rw [Array.getElem?_eq_getElem hlt]
  simpa using this
 ·simp [Go.undef] at this
theorem mU (h : AX T g w tss s ts) {t : Nat} (hs : s.slot t = .d .undef) : ts[t]? = none ∨ ts[t]? = some Go.undef := by
 have hr := h.slot t
 rw [hs] at hr
 have hv := hr.dinv
 unfold Array.getD at hv
 split at hv
 ·rename_i hlt
  right
  rw [Array.getElem?_eq_getElem hlt]
  simp only [Array.getInternal_eq_getElem] at hv
  generalize ts[t] = u at hv ⊢
  cases hv; rfl
 ·rename_i hlt
  left
  simp [hlt]
theorem uA (hC : OK T C) (hR : MI T C) (hk : b.kind ≠ .early) (h : AX T g w tss s ts) {o : Oper} {a : Ann} (hoi : ops[i]? = some o) (hd : ∀ d, o.dst = some d → d < ts.size)
  (hgi : gi < s.ctr) (hg : g.gb gi = none) (he : Am T.LP C gi (KP T.P a o ops) s = some s') :
  D2 T.P (lone (b.atR ⟨ts, df⟩ (.inRegion ops (i :: rest) :: k)) cs w) (W8 T g w tss s s' ts o.dst gi fun ts' w' => lone (b.atR ⟨ts', df⟩ (.inRegion ops rest :: k)) cs w') := by
 have hb : (KP T.P a o ops).op ≠ .bad := fun hb => fp (nL hb sC) hb he
 obtain ⟨h1, h2, h3, h4⟩ := jO hb
 unfold Am at he
 rcases h4 with ⟨hg1, hg2⟩ | ⟨j, want, t, hg1, hj, hg2⟩
 ·rw [hg2] at he
  exact ap hC hR hk h hoi h1 h2 h3 hd hgi hg (by simp [Region.wanted, hg1]) (by unfold E9; exact he)
 ·rw [hg2] at he
  simp only at he
  split at he
  ·rename_i bb hs
   have hy : yielded ops ts j = some bb := by
    simp only [yielded, hj, Option.bind_some, ov h hs]
   split at he
   ·rename_i hbw
    subst hbw
    exact ap hC hR hk h hoi h1 h2 h3 hd hgi hg (by simp [Region.wanted, hg1, hy]) (by unfold E9; exact he)
   ·rename_i hbw
    rw [h1] at he
    exact lz h hoi hd (by simp [Region.wanted, hg1, hy, hbw]) he
  ·rename_i hs
   have hy : yielded ops ts j = none := by
    rcases mU h hs with e | e <;> simp [yielded, hj, e, Go.undef]
   rw [h1] at he
   exact lz h hoi hd (by simp [Region.wanted, hg1, hy]) he
  ·simp at he
theorem my (P : Program) (r : YT) (ops : Array Oper) {i : Nat} {o : Oper} (h : ops[i]? = some o) : (Si P r ops).getD i default = KP P ((r.anns.lookup i).getD {}) o ops := by
 have hi : i < ops.size := (Array.getElem?_eq_some_iff.1 h).1
 unfold Si
 rw [List.getD_eq_getElem?_getD, List.getElem?_map, List.getElem?_range hi]
 simp only [Option.map_some, Option.getD_some]
 congr 1
 rw [Array.getD_eq_getD_getElem?, h]; rfl
theorem pe (hC : OK T C) (hR : MI T C) (hk : b.kind ≠ .early) {r : YT} {c : Nat} (hdst : ∀ (i : Nat) (o : Oper), ops[i]? = some o → ∀ d, o.dst = some d → d < ts.size) :
  ∀ (σ : List Nat) {g : Gh} {w : World} {s s' : St} {ts' : Array Value}, ts'.size = ts.size → AX T g w tss s ts' → σ.Nodup → (∀ i, i ∈ σ → i < ops.size ∧ g.gb (c + i) = none ∧ c + i < s.ctr) →
   D3 T.LP C c (Si T.P r ops) σ s = some s' →
   D2 T.P (lone (b.atR ⟨ts', df⟩ (.inRegion ops σ :: k)) cs w) fun m' => ∃ g' w' ts'', m' = lone (b.atR ⟨ts'', df⟩ (.inRegion ops [] :: k)) cs w' ∧ ts''.size = ts.size ∧ RE g w g' w' ∧ AX T g' w' tss s' ts'' ∧
    (∀ n, n < s.ctr → (∀ i, i ∈ σ → n ≠ c + i) → g'.gb n = g.gb n) ∧ s.ctr ≤ s'.ctr
 | [], g, w, s, s', ts', hsz, h, _, _, he => by
  simp only [D3, Option.some.injEq] at he
  subst he
  exact D2.here ⟨g, w, ts', rfl, hsz, .refl g w, h, fun _ _ _ => rfl, Nat.le_refl _⟩
 | i :: σ, g, w, s, s', ts', hsz, h, hn, hσ, he => by
  simp only [D3] at he
  split at he
  ·rename_i s1 h1
   obtain ⟨hi, hgi, hci⟩ := hσ i (by simp)
   have hoi : ops[i]? = some ops[i] := Array.getElem?_eq_getElem hi
   rw [my T.P r ops hoi] at h1
   refine (uA (k := k) (cs := cs) (df := df) (rest := σ) hC hR hk h hoi (fun d hd => by rw [hsz]; exact hdst i _ hoi d hd) hci hgi h1).bind fun m' hm' => ?_
   obtain ⟨g1, w1, v, rfl, hk1, hi1, hg1, hc1⟩ := hm'
   obtain ⟨hni, hn'⟩ := List.nodup_cons.1 hn
   refine (pe hC hR hk hdst σ (by rw [qG, hsz]) hi1 hn' (fun j hj => ?_) he).mono fun m' hm' => ?_
   ·obtain ⟨a1, a2, a3⟩ := hσ j (by simp [hj])
    have hne : c + j ≠ c + i := fun e => hni ((show j = i by omega) ▸ hj)
    exact ⟨a1, by rw [hg1 _ a3 hne]; exact a2, Nat.lt_of_lt_of_le a3 hc1⟩
   ·obtain ⟨g2, w2, ts2, e, hs2, hk2, hi2, hg2, hc2⟩ := hm'
    exact ⟨g2, w2, ts2, e, hs2, hk1.trans hk2, hi2, fun n hn hne => by
     rw [hg2 n (Nat.lt_of_lt_of_le hn hc1) fun j hj => hne j (by simp [hj]), hg1 n hn (hne i (by simp))], Nat.le_trans hc1 hc2⟩
  ·simp at he
theorem Wg (LP : A6) (C : AS) (c : Nat) (los : List AH) : ∀ (n i : Nat) (s : St), i + n = los.length →
  evalOps LP C (c + i) (los.drop i) s = D3 LP C c los (List.range' i n) s
 | 0, i, s, h => by
  rw [List.drop_of_length_le (by omega)]
  rfl
 | n + 1, i, s, h => by
  have hi : i < los.length := by omega
  rw [List.drop_eq_getElem_cons hi, List.range'_succ]
  simp only [evalOps, D3, List.getD_eq_getElem?_getD, List.getElem?_eq_getElem hi, Option.getD_some]
  cases Am LP C (c + i) los[i] s with
  | none => rfl
  | some s1 => exact Wg LP C c los n (i + 1) s1 (by omega)
theorem bJ (LP : A6) (C : AS) (c : Nat) (los : List AH) (s : St) : evalOps LP C c los s = D3 LP C c los (List.range los.length) s := by
 have := Wg LP C c los los.length 0 s (by omega)
 rw [List.range_eq_range']
 simpa using this
theorem AX.congr (h : AX T g w tss s ts) {r : St} (he : Zz s r) : AX T g w tss r ts :=
 ⟨by rw [← he.ctr]; exact h.winv, by rw [← he.low]; exact h.stack, fun t sl hs => by rw [← he.low]; exact h.env t sl (by rw [he.env]; exact hs)⟩
end
end Go.Lf
namespace Go.Lf
open Go
section
variable {T : Tables} {g : Gh} {w : World} {tss : List (Array Value)} {s s' : St} {ts : Array Value} {df : List Deferred} {C : AS}
variable {b : Frame} {k : List Item} {cs : List Frame} {ops : Array Oper}
theorem AX.sameHeap (h : AX T g w tss s ts) {w0 : World} (hw0 : w0.heap = w.heap) : AX T g w0 tss s ts := by
 refine h.move (g' := g) (w' := w0) ⟨fun b i u hu => ?_, h.winv.one, fun b es hf => ?_, fun b p hb => ?_, fun n b hb => ?_, fun b d hb => ?_, h.winv.ctr, h.winv.globs⟩ (.refl g) (fun b p _ => ⟨by rw [hw0], fun _ => rfl, rfl, rfl⟩)
 ·rw [← h.winv.im b i u hu]; exact FD (by rw [hw0])
 ·rw [hw0]; exact h.winv.fm b es hf
 ·rw [hw0]; exact h.winv.ow b p hb
 ·rw [hw0]; exact h.winv.gb n b hb
 ·rw [hw0]; exact h.winv.lp b d hb
theorem AX.more (h : AX T g w tss s ts) {c : Nat} (hc : s.ctr ≤ c) : AX T g w tss { s with ctr := c } ts :=
 ⟨⟨h.winv.im, h.winv.one, h.winv.fm, h.winv.ow, h.winv.gb, h.winv.lp, fun n hn => h.winv.ctr n (Nat.le_trans hc hn), h.winv.globs⟩, h.stack, h.env⟩
theorem AX.keepEnv (h : AX T g w tss s ts) (ks : List Nat) : AX T g w tss { s with env := s.env.keep ks } ts := by
 refine ⟨h.winv, h.stack, fun t sl hs => ?_⟩
 simp only [RO] at hs
 split at hs
 ·exact h.env t sl hs
 ·simp at hs
theorem eY (P : Program) (r : YT) (ops : Array Oper) : (Si P r ops).length = ops.size := by simp [Si]
theorem nM (hC : OK T C) (hR : MI T C) (hmix : T.P.follows .mixedOrders = true) (hk : b.kind ≠ .early) {r : YT} {id n : Nat} {draw : Bool} (hdst : ∀ (i : Nat) (o : Oper), ops[i]? = some o → ∀ d, o.dst = some d → d < ts.size)
  (hdraw : draw = true → eO (Si T.P r ops) ops = true) (h : AX T g w tss s ts) {jmp : Jmp} (he : Af T.LP C n (.ops (Si T.P r ops) r.keep) s = some (jmp, s')) :
  jmp = .normal ∧ D2 T.P (lone (b.atR ⟨ts, df⟩ (.code (.region id ops draw) :: k)) cs w) fun m' => ∃ g' w' ts', m' = lone (b.atR ⟨ts', df⟩ k) cs w' ∧ ts'.size = ts.size ∧ RE g w g' w' ∧ AX T g' w' tss s' ts' ∧
   (∀ n, n < s.ctr → g'.gb n = g.gb n) ∧ s.ctr ≤ s'.ctr := by
 simp only [Af] at he
 split at he
 ·rename_i s1 h1
  simp only [Option.some.injEq, Prod.mk.injEq] at he
  obtain ⟨rfl, rfl⟩ := he
  refine ⟨rfl, ?_⟩
  rw [bJ] at h1
  have h0 : AX T g w tss { s with ctr := s.ctr + (Si T.P r ops).length } ts := h.more (Nat.le_add_right _ _)
  have hlen := eY T.P r ops
  have key : ∀ (σ : List Nat) (w0 : World), w0.heap = w.heap → w0.os = w.os → w0.tape = w.tape → w0.output = w.output → σ.Perm (List.range ops.size) →
    (∃ r', D3 T.LP C s.ctr (Si T.P r ops) σ { s with ctr := s.ctr + (Si T.P r ops).length } = some r' ∧ Zz s1 r') →
    D2 T.P (lone (b.atR ⟨ts, df⟩ (.inRegion ops σ :: k)) cs w0) fun m' => ∃ g' w' ts', m' = lone (b.atR ⟨ts', df⟩ k) cs w' ∧ ts'.size = ts.size ∧ RE g w g' w' ∧
     AX T g' w' tss { s1 with env := s1.env.keep r.keep } ts' ∧ (∀ n, n < s.ctr → g'.gb n = g.gb n) ∧ s.ctr ≤ s1.ctr := by
   intro σ w0 hw0 ho0 ht0 hp0 hperm hev
   obtain ⟨r', hev, heq⟩ := hev
   have hin0 := h0.sameHeap hw0
   refine (pe (k := k) (cs := cs) (df := df) hC hR hk hdst σ rfl hin0 (hperm.nodup_iff.2 List.nodup_range) (fun i hi => ?_) hev).bind fun m' hm' => ?_
   ·have hi' : i < ops.size := List.mem_range.1 (hperm.subset hi)
    exact ⟨hi', h.winv.ctr _ (by omega), by simp only [hlen]; omega⟩
   ·obtain ⟨g', w', ts', rfl, hsz, hkept, hinv, hg, hc⟩ := hm'
    refine D2.step stepR_region_end (D2.here ⟨g', w', ts', rfl, hsz, ?_, ((hinv.congr heq.symm).keepEnv _), fun n hn => hg n (by simp only; omega) fun i _ => by omega, ?_⟩)
    ·exact ⟨hkept.le, fun b hb ho => by
      have := hkept.unch b (by rw [hw0]; exact hb) ho
      exact ⟨by rw [this.heap, hw0], this.im, this.fm, this.ow⟩, by rw [← hw0]; exact hkept.size, by rw [hkept.os, ho0], by rw [hkept.tape, ht0], by rw [hkept.output, hp0], fun b => by rw [hkept.frz]; unfold TR; rw [hw0]⟩
    ·rw [heq.ctr]
     simp only at hc; omega
  rw [show List.range (Si T.P r ops).length = List.range ops.size by rw [hlen]] at h1
  cases draw with
  | false => exact D2.step stepR_region (key _ w rfl rfl rfl rfl (.refl _) ⟨s1, h1, .refl _⟩)
  | true =>
   refine D2.step stepR_region_draw ?_
   have hsch : Region.schedule (T.P.follows .mixedOrders) ops (w.tape w.drawn (.order b.fn id)) = Region.linearise .any ops (w.tape w.drawn (.order b.fn id)) := by
    simp [Region.schedule, hmix]
   rw [hsch]
   obtain ⟨hp, hap⟩ := nW (hdraw rfl) (w.tape w.drawn (.order b.fn id))
   refine key _ _ rfl rfl rfl rfl hp (Rm T.LP C s.ctr _ _ (List.range ops.size) hp (fun i j hi hj hne hl hs => ?_) List.nodup_range h1)
   refine hap i j ?_ (List.mem_range.1 hj) hs
   obtain ⟨x, y, hxy, hjy⟩ := hl
   have hsorted : (List.range ops.size).Pairwise (· < ·) := List.pairwise_lt_range
   rw [hxy] at hsorted
   exact (List.pairwise_cons.1 (List.pairwise_append.1 hsorted).2.1).1 j hjy
 ·simp at he
def cE (ds : List Nat) : List Deferred := ds.map fun d => { target := .collected d, args := #[] }
structure nR (g : Gh) (w : World) (b : Frame) (df : List Deferred) (base : Nat) : Prop where
 floor : base ≤ w.heap.size
 kind : (b.roundOf = none ∧ ∃ ds : List Nat, df = cE ds ∧ ds.Nodup ∧ ∀ d, d ∈ ds → base ≤ d ∧ d < w.heap.size ∧ g.ow d = none ∧ w.heap[d]? = some (.deferred (some []))) ∨
  (df = [] ∧ ∃ l d, b.roundOf = some l ∧ g.lp l = some d)
theorem nR.keep {base : Nat} (h : nR g w b df base) {g' : Gh} {w' : World} (hk : RE g w g' w') : nR g' w' b df base := by
 refine ⟨Nat.le_trans h.floor hk.size, ?_⟩
 rcases h.kind with ⟨h1, ds, h2, h3, h4⟩ | ⟨h1, l, d, h2, h3⟩
 ·refine .inl ⟨h1, ds, h2, h3, fun d hd => ?_⟩
  obtain ⟨a1, a2, a3, a4⟩ := h4 d hd
  have hu := hk.unch d a2 a3
  exact ⟨a1, Nat.lt_of_lt_of_le a2 hk.size, by rw [hu.ow]; exact a3, by rw [hu.heap]; exact a4⟩
 ·exact .inr ⟨h1, l, d, h2, hk.le.lp _ _ h3⟩
def UR (b : Frame) (cs : List Frame) (k : List Item) (ts : Array Value) (df : List Deferred) (w : World) (m' : Machine) : Jmp → Prop
 | .normal => m' = lone (b.atR ⟨ts, df⟩ k) cs w
 | .exit id => ∃ k', m' = lone (b.atR ⟨ts, df⟩ (.code (.exit id) :: k')) cs w ∧ exitTo id k' = exitTo id k
 | .ret => ∃ k', m' = lone (b.atR ⟨ts, df⟩ (.code .ret :: k')) cs w
def PO (T : Tables) (g : Gh) (w : World) (tss : List (Array Value)) (ctr : Nat) (s' : St) (size : Nat) (b : Frame) (base : Nat) (cs : List Frame) (k : List Item) (jmp : Jmp) (m' : Machine) : Prop :=
 ∃ g' w' ts' df', RE g w g' w' ∧ AX T g' w' tss s' ts' ∧ ts'.size = size ∧ nR g' w' b df' base ∧ (∀ n, n < ctr → g'.gb n = g.gb n) ∧ ctr ≤ s'.ctr ∧ UR b cs k ts' df' w' m' jmp
end
end Go.Lf
namespace Go.Lf
open Go
section
variable {T : Tables} {g : Gh} {w : World} {tss : List (Array Value)} {s s' : St} {ts : Array Value} {df : List Deferred} {C : AS}
variable {b : Frame} {k : List Item} {cs : List Frame} {ops : Array Oper}
def Gh.loop (g : Gh) (l j gen D : Nat) : Gh :=
 { g with ow := fun c => if c = l then some (.loop j) else g.ow c, gb := fun n => if n = gen then some l else g.gb n, lp := fun c => if c = l then some D else g.lp c }
structure xE (w w1 : World) (l D : Nat) (rc : Loop) : Prop where
 old : ∀ b, b < w.heap.size → w1.heap[b]? = w.heap[b]?
 new : w.heap.size ≤ l
 here : w1.heap[l]? = some (.loop rc)
 defers : rc.defers = D
 size : w.heap.size ≤ w1.heap.size
 os : w1.os = w.os
 tape : w1.tape = w.tape
 output : w1.output = w.output
 frz : ∀ b, TR w1 b = TR w b
theorem um (hW : J0 T g w s.ctr) {w1 : World} {l D : Nat} {rc : Loop} (hl : xE w w1 l D rc) (j : Nat) : g.Le (g.loop l j s.ctr D) :=
 ⟨fun _ _ _ h => h, fun _ _ h => h, fun n b h => by
  simp only [Gh.loop]
  split
  ·rename_i e; subst e; rw [hW.ctr _ (Nat.le_refl _)] at h; simp at h
  ·exact h, fun c d h => by
  simp only [Gh.loop]
  split
  ·rename_i e; subst e
   obtain ⟨r, hr, _⟩ := hW.lp _ _ h
   have := (Array.getElem?_eq_some_iff.1 hr).1
   have := hl.new
   omega
  ·exact h⟩
theorem pg {w1 : World} {l D : Nat} {rc : Loop} (hl : xE w w1 l D rc) (j gen : Nat) {c : Nat} (hc : c < w.heap.size) : Pq g w (g.loop l j gen D) w1 c :=
 ⟨hl.old c hc, fun _ => rfl, rfl, by simp only [Gh.loop]; rw [if_neg (by have := hl.new; omega)]⟩
theorem qm (h : J0 T g w s.ctr) {w1 : World} {l D : Nat} {rc : Loop} (hl : xE w w1 l D rc) (j : Nat) : J0 T (g.loop l j s.ctr D) w1 (s.ctr + 1) where
 im b i u hu := by
  have := h.im b i u hu
  exact (FD (a := ⟨b, i, none⟩) (hl.old _ (ji this))).trans this
 one := h.one
 fm b es hf := by
  obtain ⟨c, hc⟩ := h.fm b es hf
  exact ⟨c, by rw [hl.old _ (Array.getElem?_eq_some_iff.1 hc).1]; exact hc⟩
 ow b p hb := by
  simp only [Gh.loop] at hb
  split at hb
  ·rename_i e; subst e; exact (Array.getElem?_eq_some_iff.1 hl.here).1
  ·exact Nat.lt_of_lt_of_le (h.ow b p hb) hl.size
 gb n b hb := by
  simp only [Gh.loop] at hb
  split at hb
  ·simp only [Option.some.injEq] at hb; subst hb; exact (Array.getElem?_eq_some_iff.1 hl.here).1
  ·exact Nat.lt_of_lt_of_le (h.gb n b hb) hl.size
 lp c d hb := by
  simp only [Gh.loop] at hb
  split at hb
  ·rename_i e; subst e
   simp only [Option.some.injEq] at hb
   exact ⟨rc, hl.here, by rw [hl.defers, hb]⟩
  ·obtain ⟨r, hr, hd⟩ := h.lp c d hb
   exact ⟨r, by rw [hl.old _ (Array.getElem?_eq_some_iff.1 hr).1]; exact hr, hd⟩
 ctr n hn := by
  simp only [Gh.loop]
  rw [if_neg (by omega)]
  exact h.ctr n (by omega)
 globs n := h.globs n
theorem VQ {P : Program} {fn : FuncId} {ps : Array Tmp} {as bd : Code} :
  (Instr.enterLoop fn ts ps as bd none).run P w = .ok (w.heap.size + 1, [{ target := .collected w.heap.size, args := #[] }])
   (World.push (World.push w (.deferred (some []))) (.loop { state := .ready, pending := none, fn, tmps := ts, params := ps, assign := as, body := bd, defers := w.heap.size })) := by
 simp [Instr.enterLoop, World.push]
 rfl
theorem Qb {P : Program} {fn : FuncId} {ps : Array Tmp} {as bd : Code} {l0 : Nat} {r0 : Loop} (h : w.heap[l0]? = some (.loop r0)) :
  (Instr.enterLoop fn ts ps as bd (some l0)).run P w = .ok (w.heap.size, [])
   (World.push w (.loop { state := .ready, pending := none, fn, tmps := ts, params := ps, assign := as, body := bd, defers := r0.defers })) := by
 simp [Instr.enterLoop, Instr.getLoop, getObj, Sem.run, h, World.push, newObj, Sem.bind, bind, pure]
theorem mZ {base : Nat} (hW : J0 T g w s.ctr) (hdf : nR g w b df base) {ps : Array Tmp} {as bd : Code} :
  ∃ l D mk w1, (Instr.enterLoop b.fn ts ps as bd b.roundOf).run T.P w = .ok (l, mk) w1 ∧
   xE w w1 l D { state := .ready, pending := none, fn := b.fn, tmps := ts, params := ps, assign := as, body := bd, defers := D } ∧
   ∀ g', RE g w g' w1 → (∀ c, c ≠ l → g'.ow c = g.ow c) → nR g' w1 b (mk ++ df) base := by
 rcases hdf.kind with ⟨h1, ds, h2, h3, h4⟩ | ⟨h1, l0, d0, h2, h3⟩
 ·have hsz : (World.push (World.push w (.deferred (some []))) (.loop { state := .ready, pending := none, fn := b.fn, tmps := ts, params := ps, assign := as, body := bd, defers := w.heap.size })).heap.size = w.heap.size + 2 := by
   rw [E5, E5]
  have hold : ∀ c, c < w.heap.size → (World.push (World.push w (.deferred (some []))) (.loop { state := .ready, pending := none, fn := b.fn, tmps := ts, params := ps, assign := as, body := bd, defers := w.heap.size })).heap[c]? = w.heap[c]? := fun c hc => by
   rw [IO (by rw [E5]; omega), IO hc]
  have hD : (World.push (World.push w (.deferred (some []))) (.loop { state := .ready, pending := none, fn := b.fn, tmps := ts, params := ps, assign := as, body := bd, defers := w.heap.size })).heap[w.heap.size]? = some (.deferred (some [])) := by
   rw [IO (by rw [E5]; omega), MY]
  refine ⟨w.heap.size + 1, w.heap.size, _, _, by rw [h1]; exact VQ, ⟨hold, by omega, ?_, rfl, by rw [hsz]; omega, rfl, rfl, rfl, fun c => by rw [Xj rfl, Xj rfl]⟩, fun g' hk hgo => ⟨by rw [hsz]; have := hdf.floor; omega, .inl ⟨h1, w.heap.size :: ds, by rw [h2]; rfl, ?_, fun d hd => ?_⟩⟩⟩
  ·have := MY (w := World.push w (.deferred (some []))) (o := .loop { state := .ready, pending := none, fn := b.fn, tmps := ts, params := ps, assign := as, body := bd, defers := w.heap.size })
   rw [E5] at this
   exact this
  ·refine List.nodup_cons.2 ⟨fun hm => ?_, h3⟩
   have := (h4 _ hm).2.1
   omega
  ·rcases List.mem_cons.1 hd with rfl | hd
   ·refine ⟨hdf.floor, by rw [hsz]; omega, ?_, hD⟩
    rw [hgo _ (by omega)]
    exact hW.ow_fresh (Nat.le_refl _)
   ·obtain ⟨a1, a2, a3, a4⟩ := h4 d hd
    exact ⟨a1, by rw [hsz]; omega, by rw [hgo _ (by omega)]; exact a3, by rw [hold d a2]; exact a4⟩
 ·obtain ⟨r0, hr0, hrd⟩ := hW.lp _ _ h3
  refine ⟨w.heap.size, r0.defers, [], _, by rw [h2]; exact Qb hr0, ⟨fun c hc => IO hc, Nat.le_refl _, MY, rfl, by rw [E5]; omega, rfl, rfl, rfl, fun c => Xj rfl c⟩, fun g' hk _ => ⟨by rw [E5]; have := hdf.floor; omega, .inr ⟨by simpa using h1, l0, d0, h2, hk.le.lp _ _ h3⟩⟩⟩
theorem jR {P : Program} {l : Nat} {r : Loop} (h : w.heap[l]? = some (.loop r)) (hs : r.state ≠ .busy) :
  (Instr.endLoop l).run P w = .ok r.pending (AE w l (.loop { r with state := .exhausted })) := by
 simp [Instr.endLoop, Instr.getLoop, getObj, setObj, Sem.run, h, hs, AE, Sem.bind, bind, pure]
theorem sD {r : NM} (hp : ∀ q, r.pending = some q → q ≠ .normal) : ((r.pending.bind Jmp.code).map Item.code).toList = match r.pending.getD .normal with
  | .normal => []
  | .exit id => [Item.code (.exit id)]
  | .ret => [Item.code .ret] := by
 cases hq : r.pending with
 | none => rfl
 | some q =>
  cases q with
  | normal => exact absurd rfl (hp _ hq)
  | exit id => rfl
  | ret => rfl
theorem uO (hC : OK T C) {f : Func} (hf : T.P.funcs[b.fn]? = some f) (hsz : f.ntmps = ts.size) {fo : Operand} {fx : Opd} {ps : Array Tmp} {as bd : Code} {base n : Nat}
  (hfo : Av fo = some fx) (hps : ∀ t, t ∈ ps.toList → t < f.ntmps) (has : G8 T.P (T.ann b.fn) f.ntmps as = true) (hbd : G8 T.P (T.ann b.fn) f.ntmps bd = true)
  (h : AX T g w tss s ts) (hdf : nR g w b df base) {jmp : Jmp}
  (he : Af T.LP C n (.rng fx ps.toList (DW T.P (T.ann b.fn) as) (DW T.P (T.ann b.fn) bd)) s = some (jmp, s')) :
  D2 T.P (lone (b.atR ⟨ts, df⟩ (.code (.rangeFunc fo ps as bd) :: k)) cs w) (PO T g w tss s.ctr s' ts.size b base cs k jmp) := by
 simp only [Af] at he
 have hF := h.val (df := df) hfo
 split at he
 ·rename_i f' a' b' ht
  obtain ⟨va, vb, hval, ra, rb⟩ := UM hF ht
  split at he
  ·rename_i v0 low' c' hcall
   split at he
   ·rename_i env r hlast
    split at he
    ·rename_i hcond
     obtain ⟨hlen, hgen, hrp⟩ := hcond
     simp only [Option.some.injEq, Prod.mk.injEq] at he
     obtain ⟨rfl, rfl⟩ := he
     obtain ⟨l, D, mk, w1, hent, hl, hdf1⟩ := mZ (T := T) (ts := ts) (ps := ps) (as := as) (bd := bd) h.winv hdf
     obtain ⟨⟨fn', hfn', hname, hbody⟩, hgo⟩ := hC _ _ _ _ _ _ _ hcall
     let g1 := g.loop l s.low.length s.ctr D
     have hle : g.Le g1 := um h.winv hl _
     have hW1 : J0 T g1 w1 (s.ctr + 1) := qm h.winv hl _
     have hun : ∀ c, c < w.heap.size → Pq g w g1 w1 c := fun c hc => pg hl _ _ hc
     have hk1 : RE g w g1 w1 := ⟨hle, fun c hc _ => hun c hc, hl.size, hl.os, hl.tape, hl.output, hl.frz⟩
     have hgl : g1.gb s.ctr = some l := by simp [g1, Gh.loop]
     have hS1 : HK T g1 w1 (tss ++ [ts]) (s.low ++ [{ env := s.env, loop := some { gen := s.ctr, params := ps.toList, assign := DW T.P (T.ann b.fn) as, body := DW T.P (T.ann b.fn) bd, ready := true, pending := none } }]) := by
      refine ⟨by simp [h.stack.len], fun j ts' fr h1 h2 => ?_⟩
      by_cases hj : j < s.low.length
      ·rw [List.getElem?_append_left hj] at h2
       rw [List.getElem?_append_left (by rw [h.stack.len]; exact hj)] at h1
       exact (h.stack.fr j ts' fr h1 h2).keep hle fun c p hc _ => hun c (h.winv.ow c p hc)
      ·have hl2 := (List.getElem?_eq_some_iff.1 h2).1
       simp only [List.length_append, List.length_singleton] at hl2
       obtain rfl : j = s.low.length := by omega
       have h2' := h2
       simp only [List.getElem?_append_right (Nat.le_refl _), Nat.sub_self, List.getElem?_cons_zero, Option.some.injEq] at h2'
       have h1' : ts' = ts := by
        rw [← h.stack.len] at h1; simpa using h1.symm
       subst h2'; subst h1'
       refine ⟨fun t sl hs => (h.env t sl hs).keep hle fun c i hc => hun c (h.winv.ow c _ hc), fun r0 hr0 => ?_⟩
       simp only [Option.some.injEq] at hr0
       subst hr0
       refine ⟨l, b.fn, ps, as, bd, D, hgl, by simp [g1, Gh.loop], by simp [g1, Gh.loop], ?_, rfl, fun q hq => by simp at hq, f, hf, hsz, has, hbd, hps, rfl, rfl⟩
       exact hl.here
     have hargs : EM g1 (va ++ #[.func (.yield l) #[] #[]] ++ vb) (a' ++ [.yield s.low.length s.ctr] ++ b') := by
      have up : ∀ {vs : Array Value} {xs : List LV}, EM g vs xs → EM g1 vs xs := fun h => ⟨h.size, fun i x hx => ⟨(h.rep i x hx).1.mono hle, (h.rep i x hx).2⟩⟩
      refine ((up ra).append ⟨rfl, fun i x hx => ?_⟩).append (up rb)
      cases i with
      | zero => simp only [List.getElem?_cons_zero, Option.some.injEq] at hx; subst hx; exact ⟨.yield hgl, rfl⟩
      | succ i => simp at hx
     have hres : (resolve (⟨ts, df⟩ : Act).eval (rangeCall fo l) 0).run T.P w1 = .ok { target := .fn (.func f') vb, args := va ++ #[.func (.yield l) #[] #[]] } w1 := by
      simp only [resolve, rangeCall, hval, Deferred.ofValue]
      simp [Act.eval]
     have hinv : (invoke (.fn (.func f') vb) (va ++ #[.func (.yield l) #[] #[]])).run T.P w1 = .ok (.enter f' (va ++ #[.func (.yield l) #[] #[]] ++ vb)) w1 := by
      simp only [invoke, U3 hfn' hname hbody]
     refine D2.step (stepR_rangeFunc hent hres hinv) ((hgo g1 w1 _ _ hW1 hS1 hargs _).bind fun m' hm' => ?_)
     obtain ⟨fr', w2, v2, g2, rfl, hff, hleave, _, _, ha⟩ := hm'
     refine D2.step (step_leave_returned hleave) ?_
     rw [finish_atR_inRangeFunc]
     have hlast' : low'[s.low.length]? = some { env, loop := some r } := by
      rw [List.getLast?_eq_getElem?, hlen] at hlast
      simpa using hlast
     have htop : (tss ++ [ts])[s.low.length]? = some ts := by rw [← h.stack.len]; simp
     have hfr := ha.stack.fr s.low.length ts _ htop hlast'
     obtain ⟨l2, fn2, ps2, as2, bd2, df2, e1, e2, e3, e4, e5, e6, _⟩ := hfr.loop r rfl
     have hl2 : l2 = l := by
      rw [hgen] at e1
      have := ha.kept.le.gb _ _ hgl
      rw [this] at e1
      simpa using e1.symm
     subst hl2
     have hst : (DU r.ready r.pending) ≠ LoopState.busy := by
      unfold DU
      rcases hrp with h1 | h1
      ·simp [h1]
      ·cases hq : r.pending with
       | none => rw [hq] at h1; simp at h1
       | some q => by_cases hr : r.ready = true <;> simp [hr]
     refine D2.step (stepR_endRangeFunc (jR e4 hst)) (D2.here ?_)
     have hlw2 : l2 < w2.heap.size := (Array.getElem?_eq_some_iff.1 e4).1
     have hlnew := hl.new
     have hset : ∀ c, c ≠ l2 → (AE w2 l2 (.loop { ({ state := DU r.ready r.pending, pending := r.pending.bind Jmp.code, fn := fn2, tmps := ts, params := ps2, assign := as2, body := bd2, defers := df2 } : Loop) with state := .exhausted })).heap[c]? = w2.heap[c]? := fun c hc => by
      rw [A4 _ _ _ _ hlw2, if_neg hc]
     have hW3 : J0 T g2 (AE w2 l2 (.loop { ({ state := DU r.ready r.pending, pending := r.pending.bind Jmp.code, fn := fn2, tmps := ts, params := ps2, assign := as2, body := bd2, defers := df2 } : Loop) with state := .exhausted })) c' := by
      refine ⟨fun c i u hu => ?_, ha.winv.one, fun c es hc => ?_, fun c p hc => by simpa [AE] using ha.winv.ow c p hc, fun m c hc => by simpa [AE] using ha.winv.gb m c hc, fun c d hc => ?_, ha.winv.ctr, ha.winv.globs⟩
      ·have hcell := ha.winv.im c i u hu
       have hne : c ≠ l2 := fun e => by subst e; simp [World.cell?, e4] at hcell
       exact (FD (a := ⟨c, i, none⟩) (hset c hne)).trans hcell
      ·obtain ⟨cl, hcl⟩ := ha.winv.fm c es hc
       have hne : c ≠ l2 := fun e => by subst e; rw [e4] at hcl; simp at hcl
       exact ⟨cl, by rw [hset c hne]; exact hcl⟩
      ·obtain ⟨r3, hr3, hd3⟩ := ha.winv.lp c d hc
       by_cases hcl : c = l2
       ·subst hcl
        rw [e4] at hr3
        simp only [Option.some.injEq, Obj.loop.injEq] at hr3
        refine ⟨_, by rw [A4 _ _ _ _ hlw2, if_pos rfl], ?_⟩
        rw [← hd3, ← hr3]
       ·exact ⟨r3, by rw [hset c hcl]; exact hr3, hd3⟩
     have hun2 : ∀ c p, g2.ow c = some p → p ≠ .loop s.low.length → Pq g2 w2 g2 (AE w2 l2 (.loop { ({ state := DU r.ready r.pending, pending := r.pending.bind Jmp.code, fn := fn2, tmps := ts, params := ps2, assign := as2, body := bd2, defers := df2 } : Loop) with state := .exhausted })) c := fun c p hc hp =>
      ⟨hset c fun e => by subst e; rw [e3] at hc; simp only [Option.some.injEq] at hc; exact hp hc.symm, fun _ => rfl, rfl, rfl⟩
     have hlen' : (low'.dropLast).length = s.low.length := by simp [hlen]
     have hkall : RE g w g2 (AE w2 l2 (.loop { ({ state := DU r.ready r.pending, pending := r.pending.bind Jmp.code, fn := fn2, tmps := ts, params := ps2, assign := as2, body := bd2, defers := df2 } : Loop) with state := .exhausted })) := by
      have hk := hk1.trans ha.kept
      exact ⟨hk.le, fun c hc ho => by
       have := hk.unch c hc ho
       exact ⟨by rw [hset c (by omega)]; exact this.heap, this.im, this.fm, this.ow⟩, by simpa [AE] using hk.size, hk.os, hk.tape, hk.output, fun c => by
       rw [← hk.frz c]
       unfold TR
       by_cases hc : c = l2
       ·subst hc; rw [A4 _ _ _ _ hlw2, if_pos rfl, e4]; rfl
       ·rw [hset c hc]⟩
     have hdfk : nR g2 (AE w2 l2 (.loop { ({ state := DU r.ready r.pending, pending := r.pending.bind Jmp.code, fn := fn2, tmps := ts, params := ps2, assign := as2, body := bd2, defers := df2 } : Loop) with state := .exhausted })) b (mk ++ df) base := by
      have hd1 : nR g1 w1 b (mk ++ df) base := hdf1 g1 hk1 fun c hc => by simp [g1, Gh.loop, hc]
      have hd2 := hd1.keep ha.kept
      refine ⟨by simpa [AE] using hd2.floor, ?_⟩
      rcases hd2.kind with ⟨q1, ds, q2, q3, q4⟩ | q
      ·refine .inl ⟨q1, ds, q2, q3, fun d hd => ?_⟩
       obtain ⟨z1, z2, z3, z4⟩ := q4 d hd
       have hne : d ≠ l2 := fun e => by subst e; rw [e4] at z4; simp at z4
       exact ⟨z1, by simpa [AE] using z2, z3, by rw [hset d hne]; exact z4⟩
      ·exact .inr q
     refine ⟨g2, _, ts, mk ++ df, hkall, ⟨hW3, ⟨by rw [hlen', h.stack.len], fun j ts' fr3 h1 h2 => ?_⟩, fun t sl hs => ?_⟩, rfl, hdfk, fun m hm => ?_, ?_, ?_⟩
     ·have hj : j < s.low.length := by rw [← hlen']; exact (List.getElem?_eq_some_iff.1 h2).1
      have h2' : low'[j]? = some fr3 := by
       rw [List.getElem?_dropLast] at h2
       split at h2
       ·exact h2
       ·simp at h2
      have h1' : (tss ++ [ts])[j]? = some ts' := by rw [List.getElem?_append_left (by rw [h.stack.len]; exact hj)]; exact h1
      exact (ha.stack.fr j ts' fr3 h1' h2').keep (.refl g2) fun c p hc hp => hun2 c p hc fun e => by subst e; simp only [D4.level] at hp; omega
     ·simp only [hlen']
      exact (hfr.env t sl hs).keep (.refl g2) fun c i hc => hun2 c _ hc (by simp)
     ·rw [ha.gens m (by omega)]
      simp only [g1, Gh.loop]
      rw [if_neg (by omega)]
     ·have := ha.mono
      simp only; omega
     ·rw [sD e6]
      cases hj : r.pending.getD .normal with
      | normal => rfl
      | exit id => exact ⟨k, rfl, rfl⟩
      | ret => exact ⟨k, rfl⟩
    ·simp at he
   ·simp at he
  ·simp at he
 ·simp at he
end
end Go.Lf
