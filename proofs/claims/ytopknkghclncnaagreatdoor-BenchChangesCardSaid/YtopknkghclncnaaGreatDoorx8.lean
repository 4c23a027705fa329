/- A part of the proof. -/
import Derived.Test.YtopknkghclncnaaGreatDoorx7
set_option linter.all false
namespace Go.Lf
open Go
section
variable (LP : BA) {F : Ib}
def aN (root : Option (Option Nat)) (dst k : Option Nat) (take : Bool) (pv : LV) : St → Option (Unit × St) := match pv with
 | .d (.fptr cs off) => match Au k off cs with
  | some x => VH dst (.d x)
  | none => fun _ => none
 | .fptr cs off => match part k off cs with
  | some x => VH dst x
  | none => fun _ => none
 | .ptr j t g off => CN (vp root j t g off fun cs => some cs) fun cs => match take, k, cs[off]? with
  | true, none, some (.hot z xs) => CN (PP root j t g off fun _ => some ((), cs.set off (.d (.slice z xs)))) fun _ => VH dst (.hot z xs)
  | _, _, _ => match part k off cs with
   | some x => VH dst x
   | none => fun _ => none
 | _ => fun _ => none
theorem VD {k : Nat} {root : Option (Option Nat)} {x : LV} (h1 : ∀ j t g off, x ≠ .ptr j t g off) (h2 : ∀ j t g, x ≠ .mref j t g) : Az k root (some x) = true := by
 cases root with
 | none => rfl
 | some r => cases x <;> first | rfl | exact absurd rfl (h1 _ _ _ _) | exact absurd rfl (h2 _ _ _)
theorem Jo {C : AV} {g : Nat} {o : AI} {s : St} {p : Opd} {pv : LV} (h : o.op.addr = some p) (hv : s.val LP p = pv) :
  E9 LP C g o s = if Az s.low.length o.root (some pv) = true then evalOp LP C g o.dst o.op s else none := by
 unfold E9
 rw [h, Option.map_some, hv]
theorem uK (C : AV) (g : Nat) {k : Option Nat} {p : Opd} {take : Bool} {dst : Option Nat} {guard : Option (Nat × Bool)} {root : Option (Option Nat)} (s : St) :
  E9 LP C g { dst, op := .load k p take, guard, root } s = (CN (rdV LP p) (aN root dst k take) s).map (·.2) := by
 obtain ⟨pv, hv⟩ : ∃ pv, s.val LP p = pv := ⟨_, rfl⟩
 rw [Jo LP rfl hv]
 simp only [CN, rdV, hv]
 have other : ∀ x : LV, (∀ j t g off, x ≠ .ptr j t g off) → (∀ j t g, x ≠ .mref j t g) → Az s.low.length root (some x) = true := fun x h1 h2 => VD h1 h2
 cases pv with
 | d y =>
  rw [if_pos (other _ (by simp) (by simp))]
  simp only [evalOp, hv, aN]
  cases y with
  | fptr cs off => simp only; cases Au k off cs with
   | none => rfl
   | some x => exact BZ _ _ _
  | _ => rfl
 | fptr cs off =>
  rw [if_pos (other _ (by simp) (by simp))]
  simp only [evalOp, hv, aN]
  cases part k off cs with
  | none => rfl
  | some x => exact BZ _ _ _
 | ptr j t g' off =>
  by_cases hr : Az s.low.length root (some (.ptr j t g' off)) = true
  ·rw [if_pos hr]
   simp only [evalOp, hv, aN, CN, vp, hr, if_true]
   cases hc : s.cells j t g' with
   | none => rfl
   | some cs =>
    simp only [Option.bind_some, Option.map_some]
    have plain : (match part k off cs with | some x => s.put dst x | none => none) = ((match part k off cs with | some x => VH dst x | none => fun _ => none : St → Option (Unit × St)) s).map (·.2) := by
     cases part k off cs with
     | none => rfl
     | some x => exact BZ _ _ _
    cases take with
    | false => exact plain
    | true =>
     cases k with
     | some n => exact plain
     | none =>
      cases hx : cs[off]? with
      | none => exact plain
      | some x =>
       cases x with
       | hot z xs =>
        simp only [PP, hr, if_true, hc, CN]
        exact BZ _ _ _
       | _ => exact plain
  ·rw [if_neg hr]
   simp only [aN, CN, vp, hr]
   rfl
 | mref j t g' =>
  simp only [aN]
  split
  ·simp only [evalOp, hv]; rfl
  ·rfl
 | _ =>
  rw [if_pos (other _ (by simp) (by simp))]
  simp only [evalOp, hv, aN]
  rfl
theorem nB {root : Option (Option Nat)} {dst k : Option Nat} {take : Bool} (hd : ∀ d, dst = some d → F.W d) (hr : F.Rooted root) (hh : take = true → F.Holds root) (pv : LV) :
  Ag (aN root dst k take pv) F := by
 unfold aN
 split
 ·split
  ·exact Dz hd _
  ·exact Ag.fail
 ·split
  ·exact Dz hd _
  ·exact Ag.fail
 ·refine Ag.bind (nA hr _ _ _ _ _) fun cs => ?_
  split
  ·exact Ag.bind (Ur (hh rfl) _ _ _ _ _) fun _ => Dz hd _
  ·split
   ·exact Dz hd _
   ·exact Ag.fail
 ·exact Ag.fail
theorem sC (C : AV) (g : Nat) {k : Option Nat} {p : Opd} {take : Bool} {dst : Option Nat} {guard : Option (Nat × Bool)} {root : Option (Option Nat)} :
  Dk (E9 LP C g { dst, op := .load k p take, guard, root }) (AI.foot { dst, op := .load k p take, guard, root }) := by
 refine BD (fun s => uK LP C g s) (Ag.bind (G1 LP (lj { dst, op := .load k p take, guard, root } (by simp [LOp.opds]))) fun pv => nB (fun d hd => ?_) ?_ (fun ht => ?_) pv)
 ·subst hd
  cases take <;> cases root <;> first | exact .inl rfl | exact .inr (.inl (by simp [AI.foot]))
 ·cases take <;> cases root <;> first
   | exact .inl rfl
   | exact .inr rfl
   | skip
  ·rename_i q; cases q with
   | none => trivial
   | some q => exact .inl (by simp [AI.foot, own])
  ·rename_i q; cases q with
   | none => trivial
   | some q => exact .inr (.inr (by simp [AI.foot, own]))
 ·subst ht
  cases root with
  | none => exact rfl
  | some q => cases q with
   | none => trivial
   | some q => simp [Ib.Holds, AI.foot, own]
def kw (root : Option (Option Nat)) (n : Nat) (x : Opd) (pv : LV) : St → Option (Unit × St) := match pv with
 | .ptr j t g off => CN (OD LP x) fun xv => match xv.known with
  | some xs => PP root j t g off fun cs => if xs.length = n ∧ off + n ≤ cs.length ∧ xs.all LV.cellOk then some ((), setCells cs off xs) else none
  | none => fun _ => none
 | _ => fun _ => none
theorem S1 (x : Opd) (s : St) : (s.take LP x).2.low = s.low := by
 unfold St.take
 cases x with
 | tmp t => simp only; split <;> rfl
 | _ => rfl
theorem pq (C : AV) (g : Nat) {n : Nat} {p x : Opd} {dst : Option Nat} {guard : Option (Nat × Bool)} {root : Option (Option Nat)} (s : St) :
  E9 LP C g { dst, op := .store n p x, guard, root } s = (CN (rdV LP p) (kw LP root n x) s).map (·.2) := by
 obtain ⟨pv, hv⟩ : ∃ pv, s.val LP p = pv := ⟨_, rfl⟩
 rw [Jo LP rfl hv]
 simp only [CN, rdV, hv]
 cases pv with
 | ptr j t g' off =>
  simp only [kw, CN, OD]
  by_cases hr : Az s.low.length root (some (.ptr j t g' off)) = true
  ·rw [if_pos hr]
   simp only [evalOp, hv]
   cases hk : (s.take LP x).1.known with
   | none => cases (s.take LP x).2.cells j t g' <;> rfl
   | some xs =>
    simp only [PP, S1, hr, if_true]
    cases (s.take LP x).2.cells j t g' with
    | none => rfl
    | some cs => simp only; split <;> rfl
  ·rw [if_neg hr]
   cases hk : (s.take LP x).1.known with
   | none => rfl
   | some xs => simp only [PP, S1, hr]; rfl
 | _ =>
  simp only [kw, evalOp, hv]
  split <;> rfl
theorem mq (C : AV) (g : Nat) {n : Nat} {p x : Opd} {dst : Option Nat} {guard : Option (Nat × Bool)} {root : Option (Option Nat)} :
  Dk (E9 LP C g { dst, op := .store n p x, guard, root }) (AI.foot { dst, op := .store n p x, guard, root }) := by
 refine BD (fun s => pq LP C g s) (Ag.bind (G1 LP (lj { dst, op := .store n p x, guard, root } (by simp [LOp.opds]))) fun pv => ?_)
 unfold kw
 split
 ·refine Ag.bind (MB LP fun t ht => ?_) fun xv => ?_
  ·subst ht
   cases root <;> first | exact .inl rfl | exact .inr (.inl (by simp [AI.foot, Opd.tmp?]))
  ·split
   ·refine Ur ?_ _ _ _ _ _
    cases root with
    | none => exact rfl
    | some q => cases q with
     | none => trivial
     | some q => simp [Ib.Holds, AI.foot, own]
   ·exact Ag.fail
 ·exact Ag.fail
def Zi (root : Option (Option Nat)) (n : Nat) (v : Opd) (mv kv : LV) : St → Option (Unit × St) := match mv, kv.key n with
 | .mref j t g, some key => CN (OD LP v) fun xv => Ny root j t g n fun es => match AP key es 0 with
  | some (i, _) => some ((), es.set i (key, xv))
  | none => some ((), es ++ [(key, xv)])
 | _, _ => fun _ => none
theorem lL (C : AV) (g : Nat) {n : Nat} {m k v : Opd} {dst : Option Nat} {guard : Option (Nat × Bool)} {root : Option (Option Nat)} (s : St) :
  E9 LP C g { dst, op := .mapset n m k v, guard, root } s = (CN (rdV LP m) (fun mv => CN (rdV LP k) (Zi LP root n v mv)) s).map (·.2) := by
 obtain ⟨pv, hv⟩ : ∃ pv, s.val LP m = pv := ⟨_, rfl⟩
 rw [Jo LP rfl hv]
 simp only [CN, rdV, hv]
 cases pv with
 | mref j t g' =>
  simp only [Zi, evalOp, hv]
  cases (s.val LP k).key n with
  | none => split <;> rfl
  | some key =>
   simp only [CN, OD, Ny, S1]
   split
   ·cases (s.take LP v).2.entries j t g' n with
    | none => rfl
    | some es =>
     simp only
     cases AP key es 0 <;> rfl
   ·rfl
 | _ =>
  simp only [Zi, evalOp, hv]
  split <;> rfl
theorem yr {o : AI} (h : o.foot.bar = true ∨ o.foot.wb = own o.root) (hn : o.root = none → o.foot.bar = true) : o.foot.Holds o.root := by
 cases hr : o.root with
 | none => exact hn hr
 | some q => cases q with
  | none => trivial
  | some q =>
   rcases h with h | h
   ·obtain ⟨dst, op, guard, root⟩ := o
    simp only at hr
    subst hr
    cases op <;> (try (simp [AI.foot] at h; done))
    case move x b => cases b <;> simp [AI.foot] at h
    case extract i x b => cases b <;> simp [AI.foot] at h
    case load k p b => cases b <;> simp [AI.foot] at h
    case call f as vis => cases vis <;> simp [AI.foot] at h
   ·show q ∈ o.foot.wb
    rw [h, hr]; simp [own]
theorem kT (C : AV) (g : Nat) {n : Nat} {m k v : Opd} {dst : Option Nat} {guard : Option (Nat × Bool)} {root : Option (Option Nat)} :
  Dk (E9 LP C g { dst, op := .mapset n m k v, guard, root }) (AI.foot { dst, op := .mapset n m k v, guard, root }) := by
 refine BD (fun s => lL LP C g s) (Ag.bind (G1 LP (lj { dst, op := .mapset n m k v, guard, root } (by simp [LOp.opds]))) fun mv =>
  Ag.bind (G1 LP (lj { dst, op := .mapset n m k v, guard, root } (by simp [LOp.opds]))) fun kv => ?_)
 unfold Zi
 split
 ·refine Ag.bind (MB LP fun t ht => ?_) fun xv => ?_
  ·subst ht
   cases root <;> first | exact .inl rfl | exact .inr (.inl (by simp [AI.foot, Opd.tmp?]))
  ·refine O7 ?_ _ _ _ _ _
   cases root with
   | none => exact rfl
   | some q => cases q with
    | none => trivial
    | some q => simp [Ib.Holds, AI.foot, own]
 ·exact Ag.fail
def Yx (root : Option (Option Nat)) (n : Nat) (v : Opd) (mv iv : LV) : St → Option (Unit × St) := match mv, Gu iv with
 | .mref j t g, some i => CN (OD LP v) fun xv => Ny root j t g n fun es => match es[i]? with
  | some (key, _) => some ((), es.set i (key, xv))
  | none => none
 | _, _ => fun _ => none
theorem lP (C : AV) (g : Nat) {n : Nat} {m k v : Opd} {dst : Option Nat} {guard : Option (Nat × Bool)} {root : Option (Option Nat)} (s : St) :
  E9 LP C g { dst, op := .mstore n m k v, guard, root } s = (CN (rdV LP m) (fun mv => CN (rdV LP k) (Yx LP root n v mv)) s).map (·.2) := by
 obtain ⟨pv, hv⟩ : ∃ pv, s.val LP m = pv := ⟨_, rfl⟩
 rw [Jo LP rfl hv]
 simp only [CN, rdV, hv]
 cases pv with
 | mref j t g' =>
  simp only [Yx, evalOp, hv]
  cases Gu (s.val LP k) with
  | none => split <;> rfl
  | some i =>
   simp only [CN, OD, Ny, S1]
   split
   ·cases (s.take LP v).2.entries j t g' n with
    | none => rfl
    | some es =>
     simp only
     cases es[i]? <;> rfl
   ·rfl
 | _ =>
  simp only [Yx, evalOp, hv]
  split <;> rfl
theorem jW (C : AV) (g : Nat) {n : Nat} {m k v : Opd} {dst : Option Nat} {guard : Option (Nat × Bool)} {root : Option (Option Nat)} :
  Dk (E9 LP C g { dst, op := .mstore n m k v, guard, root }) (AI.foot { dst, op := .mstore n m k v, guard, root }) := by
 refine BD (fun s => lP LP C g s) (Ag.bind (G1 LP (lj { dst, op := .mstore n m k v, guard, root } (by simp [LOp.opds]))) fun mv =>
  Ag.bind (G1 LP (lj { dst, op := .mstore n m k v, guard, root } (by simp [LOp.opds]))) fun kv => ?_)
 unfold Yx
 split
 ·refine Ag.bind (MB LP fun t ht => ?_) fun xv => ?_
  ·subst ht
   cases root <;> first | exact .inl rfl | exact .inr (.inl (by simp [AI.foot, Opd.tmp?]))
  ·refine O7 ?_ _ _ _ _ _
   cases root with
   | none => exact rfl
   | some q => cases q with
    | none => trivial
    | some q => simp [Ib.Holds, AI.foot, own]
 ·exact Ag.fail
def ZS (root : Option (Option Nat)) (dst : Option Nat) (n : Nat) (z : DV) (mv kv : LV) : St → Option (Unit × St) := match mv, kv.key n with
 | .mref j t g, some key => CN (Ny root j t g n fun es => match AP key es 0 with
  | some (i, v) => some (LV.tup [v, .d (.int i)], es.set i (key, v.cool))
  | none => some (.tup [.d z, .d (.int es.length)], es ++ [(key, .d z)])) fun r => VH dst r
 | _, _ => fun _ => none
theorem jg (C : AV) (g : Nat) {n : Nat} {m k : Opd} {z : DV} {dst : Option Nat} {guard : Option (Nat × Bool)} {root : Option (Option Nat)} (s : St) :
  E9 LP C g { dst, op := .mentry n m k z, guard, root } s = (CN (rdV LP m) (fun mv => CN (rdV LP k) (ZS root dst n z mv)) s).map (·.2) := by
 obtain ⟨pv, hv⟩ : ∃ pv, s.val LP m = pv := ⟨_, rfl⟩
 rw [Jo LP rfl hv]
 simp only [CN, rdV, hv]
 cases pv with
 | mref j t g' =>
  simp only [ZS, evalOp, hv]
  cases (s.val LP k).key n with
  | none => split <;> rfl
  | some key =>
   simp only [CN, Ny]
   split
   ·cases s.entries j t g' n with
    | none => rfl
    | some es =>
     simp only
     cases AP key es 0 with
     | none => exact BZ _ _ _
     | some r => exact BZ _ _ _
   ·rfl
 | _ =>
  simp only [ZS, evalOp, hv]
  split <;> rfl
theorem jL (C : AV) (g : Nat) {n : Nat} {m k : Opd} {z : DV} {dst : Option Nat} {guard : Option (Nat × Bool)} {root : Option (Option Nat)} :
  Dk (E9 LP C g { dst, op := .mentry n m k z, guard, root }) (AI.foot { dst, op := .mentry n m k z, guard, root }) := by
 refine BD (fun s => jg LP C g s) (Ag.bind (G1 LP (lj { dst, op := .mentry n m k z, guard, root } (by simp [LOp.opds]))) fun mv =>
  Ag.bind (G1 LP (lj { dst, op := .mentry n m k z, guard, root } (by simp [LOp.opds]))) fun kv => ?_)
 unfold ZS
 split
 ·refine Ag.bind (O7 ?_ _ _ _ _ _) fun r => Dz (fun d hd => ?_) r
  ·cases root with
   | none => exact rfl
   | some q => cases q with
    | none => trivial
    | some q => simp [Ib.Holds, AI.foot, own]
  ·subst hd
   cases root <;> first | exact .inl rfl | exact .inr (.inl (by simp [AI.foot]))
 ·exact Ag.fail
def fP (root : Option (Option Nat)) (n : Nat) (mv kv : LV) : St → Option (Option LV × St) := match kv.key n with
 | none => fun _ => none
 | some key => match mv with
  | .mref j t g => xq root j t g n fun es => some ((AP key es 0).map fun p => p.2.copy)
  | .d (.fmap n' es) => if n' = n then fun s => some ((AP key es 0).map fun p => .d p.2, s) else fun _ => none
  | .d .nilmap => fun s => some (none, s)
  | _ => fun _ => none
theorem iO (C : AV) (g : Nat) {n : Nat} {m k : Opd} {ok : Bool} {z : DV} {dst : Option Nat} {guard : Option (Nat × Bool)} {root : Option (Option Nat)} (s : St) :
  E9 LP C g { dst, op := .lookup n m k ok z, guard, root } s = (CN (rdV LP m) (fun mv => CN (rdV LP k) fun kv => CN (fP root n mv kv) fun r =>
   VH dst (if ok then LV.norm (.tup [r.getD (.d z), .d (.bool r.isSome)]) else r.getD (.d z))) s).map (·.2) := by
 obtain ⟨pv, hv⟩ : ∃ pv, s.val LP m = pv := ⟨_, rfl⟩
 rw [Jo LP rfl hv]
 simp only [CN, rdV, hv, fP]
 have fin : ∀ r : Option LV, (if ok = true then s.put dst (LV.norm (.tup [r.getD (.d z), .d (.bool r.isSome)])) else s.put dst (r.getD (.d z))) = (VH dst (if ok = true then LV.norm (.tup [r.getD (.d z), .d (.bool r.isSome)]) else r.getD (.d z)) s).map (·.2) := by
  intro r; cases ok <;> exact BZ _ _ _
 simp only [evalOp]
 cases (s.val LP k).key n with
 | none => split <;> rfl
 | some key =>
  simp only [hv]
  cases pv with
  | mref j t g' =>
   simp only [xq]
   split
   ·cases s.entries j t g' n with
    | none => rfl
    | some es => exact fin _
   ·rfl
  | d y =>
   rw [if_pos (VD (by simp) (by simp))]
   cases y with
   | fmap n' es =>
    simp only
    split
    ·exact fin _
    ·rfl
   | nilmap => exact fin none
   | _ => rfl
  | _ =>
   simp only
   split <;> rfl
theorem iG (C : AV) (g : Nat) {n : Nat} {m k : Opd} {ok : Bool} {z : DV} {dst : Option Nat} {guard : Option (Nat × Bool)} {root : Option (Option Nat)} :
  Dk (E9 LP C g { dst, op := .lookup n m k ok z, guard, root }) (AI.foot { dst, op := .lookup n m k ok z, guard, root }) := by
 refine BD (fun s => iO LP C g s) (Ag.bind (G1 LP (lj { dst, op := .lookup n m k ok z, guard, root } (by simp [LOp.opds]))) fun mv =>
  Ag.bind (G1 LP (lj { dst, op := .lookup n m k ok z, guard, root } (by simp [LOp.opds]))) fun kv => Ag.bind ?_ fun r => Dz (fun d hd => ?_) _)
 ·unfold fP
  split
  ·exact Ag.fail
  ·split
   ·refine nE ?_ _ _ _ _ _
    cases root with
    | none => exact .inl rfl
    | some q => cases q with
     | none => trivial
     | some q => exact .inl (by simp [AI.foot, own])
   ·split
    ·exact Ag.ret _
    ·exact Ag.fail
   ·exact Ag.ret _
   ·exact Ag.fail
 ·subst hd
  cases root <;> exact .inr (.inl (by simp [AI.foot]))
end
end Go.Lf
namespace Go.Lf
open Go
section
variable (LP : BA) {F : Ib}
def ci (vis : List Nat) (K : List Fr → Nat → Option (LV × List Fr × Nat)) (s : St) : Option (LV × St) :=
 match K (s.low ++ [{ env := s.env.keep vis, loop := none }]) s.ctr with
 | some (v, low', c') => match low'.getLast? with
  | some fr => if low'.length = s.low.length + 1 then some (v, { env := Env.merge vis s.env fr.env, low := low'.dropLast, ctr := c' }) else none
  | none => none
 | none => none
theorem lE {vis : List Nat} (K : List Fr → Nat → Option (LV × List Fr × Nat)) (hv : ∀ t, t ∈ vis → t ∈ F.wb) (hl : F.lw = true) : Ag (ci vis K) F where
 turns s a s' h := by
  unfold ci at h
  split at h
  ·rename_i v low' c' hK
   split at h
   ·rename_i fr hfr
    split at h
    ·rename_i hlen
     simp only [Option.some.injEq, Prod.mk.injEq] at h
     obtain ⟨_, rfl⟩ := h
     have out : ∀ t, t ∉ F.wb → (Env.merge vis s.env fr.env).get t = s.env.get t := fun t ht => by
      rw [NH, if_neg (by simp only [List.contains_eq_mem, decide_eq_true_eq]; exact fun h => ht (hv t h))]
     exact ⟨by simp [hlen], fun t ht => out t fun h => ht (.inr (.inr h)), fun _ t ht => .inl (out t ht), fun _ h => by rw [hl] at h; simp at h, fun _ h => by rw [hl] at h; simp at h⟩
    ·simp at h
   ·simp at h
  ·simp at h
 same s a s' r h hag := by
  have hlow := hag.low (.inr (.inl hl))
  have hctr := hag.ctr (.inl hl)
  have hkeep : s.env.keep vis = r.env.keep vis := bw fun t ht => hag.here t (.inr (.inr (.inr (hv t ht))))
  unfold ci at h
  split at h
  ·rename_i v low' c' hK
   split at h
   ·rename_i fr hfr
    split at h
    ·rename_i hlen
     simp only [Option.some.injEq, Prod.mk.injEq] at h
     obtain ⟨rfl, rfl⟩ := h
     refine ⟨{ env := Env.merge vis r.env fr.env, low := low'.dropLast, ctr := c' }, ?_, fun t ht => ?_, fun _ => rfl, fun _ => rfl⟩
     ·unfold ci
      rw [← hlow, ← hctr, ← hkeep, hK]
      simp only [hfr, hlen, if_true]
     ·simp only [NH]
      rw [hag.same.env t ht]
    ·simp at h
   ·simp at h
  ·simp at h
def zM (C : AV) (fv : LV) (avs : List LV) (low : List Fr) (ctr : Nat) : Option (LV × List Fr × Nat) := match fv with
 | .yield j g => (C.round j g avs low ctr).map fun r => (.d (.bool r.1), r.2)
 | fv => match target fv with
  | some (f, a, b) => C.call f (a ++ avs ++ b) low ctr
  | none => none
theorem wS (C : AV) (g : Nat) {f : Opd} {args : List Opd} {vis : List Nat} {dst : Option Nat} {guard : Option (Nat × Bool)} {root : Option (Option Nat)} (s : St) :
  E9 LP C g { dst, op := .call f args (some vis), guard, root } s =
   (CN (fun s => some (s.val LP f, s)) (fun fv => CN (fun s => some (args.map (s.val LP), s)) fun avs => CN (ci vis (zM C fv avs)) fun v => VH dst v) s).map (·.2) := by
 rw [A3 LP rfl]
 simp only [CN, ci, zM, evalOp]
 cases s.val LP f with
 | yield j g' =>
  simp only
  cases C.round j g' (args.map (s.val LP)) (s.low ++ [{ env := s.env.keep vis, loop := none }]) s.ctr with
  | none => rfl
  | some r =>
   obtain ⟨b, low', c'⟩ := r
   simp only [Option.map_some]
   cases low'.getLast? with
   | none => rfl
   | some fr =>
    simp only
    split
    ·exact BZ _ _ _
    ·rfl
 | _ =>
  simp only
  generalize target _ = tt
  cases tt with
  | none => rfl
  | some fab =>
   obtain ⟨f', a, b⟩ := fab
   simp only
   cases C.call f' (a ++ args.map (s.val LP) ++ b) (s.low ++ [{ env := s.env.keep vis, loop := none }]) s.ctr with
   | none => rfl
   | some r =>
    obtain ⟨v, low', c'⟩ := r
    simp only
    cases low'.getLast? with
    | none => rfl
    | some fr =>
     simp only
     split
     ·exact BZ _ _ _
     ·rfl
theorem rN (C : AV) (g : Nat) {f : Opd} {args : List Opd} {vis : List Nat} {dst : Option Nat} {guard : Option (Nat × Bool)} {root : Option (Option Nat)} :
  Dk (E9 LP C g { dst, op := .call f args (some vis), guard, root }) (AI.foot { dst, op := .call f args (some vis), guard, root }) := by
 refine BD (fun s => wS LP C g s) (Ag.bind (Ey (f := fun s => some (s.val LP f)) fun s r h => ?_) fun fv => Ag.bind (Ey (f := fun s => some (args.map (s.val LP))) fun s r h => ?_) fun avs =>
  Ag.bind (lE _ (fun t ht => ht) rfl) fun v => Dz (fun d hd => ?_) v)
 ·rw [h.val LP (lj { dst, op := .call f args (some vis), guard, root } (by simp [LOp.opds]))]
 ·rw [II fun x hx => h.val LP (lj { dst, op := .call f args (some vis), guard, root } (by simp [LOp.opds, hx]))]
 ·subst hd; exact .inr (.inl (by simp [AI.foot]))
theorem Xw (C : AV) (g : Nat) (o : AI) : Dk (E9 LP C g o) o.foot := by
 by_cases hv : o.op.isValue = true
 ·exact lz LP C g hv
 ·obtain ⟨dst, op, guard, root⟩ := o
  cases op <;> try (exact absurd rfl hv)
  case move x b => cases b <;> first | exact absurd rfl hv | exact rn LP C g
  case alloc => exact ni LP C g
  case box => exact ti LP C g
  case mkmap => exact ns LP C g
  case mapset => exact kT LP C g
  case load => exact sC LP C g
  case store => exact mq LP C g
  case call f as vis => cases vis <;> first | exact absurd rfl hv | exact rN LP C g
  case append => exact j8 LP C g
  case extract => exact eS LP C g
  case lookup => exact iG LP C g
  case mentry => exact jL LP C g
  case mstore => exact jW LP C g
  case bad => exact BD (h := fun _ => none) (fun s => by rw [A3 LP rfl]; rfl) Ag.fail
theorem oh {o : AI} {d : Nat} (h : o.dst = some d) : o.foot.W d := by
 by_cases hv : o.op.isValue = true
 ·exact .inr (.inl (by rw [dU hv]; exact uh h))
 ·obtain ⟨dst, op, guard, root⟩ := o
  simp only at h
  subst h
  cases op
  case move x b => cases b <;> first | exact absurd rfl hv | exact .inr (.inl (by simp [AI.foot]))
  case append => exact .inr (.inl (by simp [AI.foot]))
  case alloc => exact .inr (.inr (by simp [AI.foot]))
  case box => exact .inr (.inr (by simp [AI.foot]))
  case mkmap => exact .inr (.inr (by simp [AI.foot]))
  case extract i x b => cases b <;> exact .inr (.inl (by simp [AI.foot]))
  case mapset => cases root <;> first | exact .inl rfl | exact .inr (.inl (by simp [AI.foot]))
  case load k p b => cases b <;> cases root <;> first | exact .inl rfl | exact .inr (.inl (by simp [AI.foot]))
  case store => cases root <;> first | exact .inl rfl | exact .inr (.inl (by simp [AI.foot]))
  case mentry => cases root <;> first | exact .inl rfl | exact .inr (.inl (by simp [AI.foot]))
  case mstore => cases root <;> first | exact .inl rfl | exact .inr (.inl (by simp [AI.foot]))
  case lookup => cases root <;> exact .inr (.inl (by simp [AI.foot]))
  case call f as vis => cases vis <;> first | exact absurd rfl hv | exact .inr (.inl (by simp [AI.foot]))
  case bad => exact .inr (.inl (by simp [AI.foot]))
  all_goals exact absurd rfl hv
theorem US (C : AV) (g : Nat) (o : AI) : Dk (Ao LP C g o) o.foot := by
 cases hg : o.guard with
 | none =>
  have : Ao LP C g o = E9 LP C g o := by
   funext s; unfold Ao; rw [hg]; rfl
  rw [this]; exact Xw LP C g o
 | some tw =>
  obtain ⟨t, want⟩ := tw
  have ht : t ∈ o.foot.rd := s9 o (List.mem_append_right _ (by rw [hg]; simp))
  have hR := Xw LP C g o
  have hR' : Ag (fun s => (E9 LP C g o s).map fun s' => ((), s')) o.foot := ⟨fun s a s' h => by
    simp only [Option.map_eq_some_iff, Prod.mk.injEq, true_and, exists_eq_right] at h
    exact hR.turns s s' h, fun s a s' r h hag => by
    simp only [Option.map_eq_some_iff, Prod.mk.injEq, true_and, exists_eq_right] at h
    obtain ⟨r', hr, hs⟩ := hR.same s s' r h hag
    exact ⟨r', by simp [hr], hs⟩⟩
  refine BD (h := CN (fun s => some (s.slot t, s)) fun x => match x with
   | .d (.bool b) => if b = want then (fun s => (E9 LP C g o s).map fun s' => ((), s')) else VH o.dst (.d .undef)
   | .d .undef => VH o.dst (.d .undef)
   | _ => fun _ => none) (fun s => ?_) (Ag.bind (Ey (f := fun s => some (s.slot t)) fun s r h => by rw [h.slot (.inl ht)]) fun x => ?_)
  ·unfold Ao
   rw [hg]
   simp only [CN]
   cases s.slot t with
   | d y =>
    cases y with
    | bool b =>
     simp only
     split
     ·show E9 LP C g o s = ((E9 LP C g o s).map fun s' => ((), s')).map (·.2)
      cases E9 LP C g o s <;> rfl
     ·exact BZ _ _ _
    | undef => exact BZ _ _ _
    | _ => rfl
   | _ => rfl
  ·split
   ·split
    ·exact hR'
    ·exact Dz (fun d hd => oh hd) _
   ·exact Dz (fun d hd => oh hd) _
   ·exact Ag.fail
def D6 (C : AV) (c : Nat) (ops : List AI) : List Nat → St → Option St
 | [], s => some s
 | i :: r, s => match Ao LP C (c + i) (ops.getD i default) s with
  | some s' => D6 C c ops r s'
  | none => none
theorem R7 (C : AV) (c : Nat) (ops : List AI) : ∀ (l : List Nat) {s r s' : St}, cV s r → D6 LP C c ops l s = some s' → ∃ r', D6 LP C c ops l r = some r' ∧ cV s' r'
 | [], s, r, s', he, h => by
  simp only [D6, Option.some.injEq] at h
  subst h
  exact ⟨r, rfl, he⟩
 | i :: l, s, r, s', he, h => by
  simp only [D6] at h
  split at h
  ·rename_i s1 h1
   obtain ⟨r1, hr1, he1⟩ := (US LP C (c + i) (ops.getD i default)).congr he h1
   obtain ⟨r', hr', he'⟩ := R7 C c ops l he1 h
   exact ⟨r', by simp only [D6, hr1]; exact hr', he'⟩
  ·simp at h
theorem Rl (C : AV) (c : Nat) (ops : List AI) {k : Nat} : ∀ (pre post : List Nat) {s s' : St}, (∀ i, i ∈ pre → (ops.getD i default).foot.apart (ops.getD k default).foot = true) →
  D6 LP C c ops (pre ++ k :: post) s = some s' → ∃ r', D6 LP C c ops (k :: (pre ++ post)) s = some r' ∧ cV s' r'
 | [], post, s, s', _, h => ⟨s', h, .refl _⟩
 | i :: pre, post, s, s', ha, h => by
  simp only [List.cons_append, D6] at h
  split at h
  ·rename_i s1 h1
   obtain ⟨r1, hr1, he1⟩ := Rl C c ops pre post (fun j hj => ha j (by simp [hj])) h
   simp only [D6] at hr1
   split at hr1
   ·rename_i s2 h2
    obtain ⟨a, b, ha1, hb1, hab⟩ := Dk.swap (US LP C (c + i) (ops.getD i default)) (US LP C (c + k) (ops.getD k default)) (ha i (by simp)) h1 h2
    obtain ⟨r', hr', he'⟩ := R7 LP C c ops (pre ++ post) hab hr1
    refine ⟨r', ?_, he1.trans he'⟩
    simp only [D6, ha1, List.cons_append, hb1]
    exact hr'
   ·simp at hr1
  ·simp at h
theorem TT (C : AV) (c : Nat) (ops : List AI) : ∀ (σ l : List Nat) {s s' : St}, σ.Perm l →
  (∀ i k, i ∈ l → k ∈ l → i ≠ k → (∃ a b, l = a ++ i :: b ∧ k ∈ b) → (∃ a b, σ = a ++ k :: b ∧ i ∈ b) → (ops.getD i default).foot.apart (ops.getD k default).foot = true) → l.Nodup →
  D6 LP C c ops l s = some s' → ∃ r', D6 LP C c ops σ s = some r' ∧ cV s' r'
 | [], l, s, s', hp, _, _, h => by
  have : l = [] := hp.symm.eq_nil
  subst this
  exact ⟨s', h, .refl _⟩
 | k :: σ, l, s, s', hp, ha, hn, h => by
  have hk : k ∈ l := hp.subset (by simp)
  obtain ⟨pre, post, rfl⟩ := List.append_of_mem hk
  have hperm : σ.Perm (pre ++ post) := by
   have : (k :: σ).Perm (k :: (pre ++ post)) := hp.trans List.perm_middle
   exact this.cons_inv
  have hn' : (k :: (pre ++ post)).Nodup := (List.perm_middle.nodup_iff).1 hn
  obtain ⟨hknot, hn2⟩ := List.nodup_cons.1 hn'
  obtain ⟨r1, hr1, he1⟩ := Rl LP C c ops pre post (fun i hi => by
   have hne : i ≠ k := fun e => by subst e; exact hknot (by simp [hi])
   obtain ⟨a, b, rfl⟩ := List.append_of_mem hi
   exact ha i k (by simp) (by simp) hne ⟨a, b ++ k :: post, by simp, by simp⟩ ⟨[], σ, rfl, hperm.symm.subset (by simp)⟩) h
  simp only [D6] at hr1
  split at hr1
  ·rename_i s1 h1
   obtain ⟨r', hr', he'⟩ := TT C c ops σ (pre ++ post) hperm (fun i j hi hj hne hl hs => by
    have hi' : i ∈ pre ++ k :: post := by simp only [List.mem_append, List.mem_cons] at hi ⊢; rcases hi with h | h; exact .inl h; exact .inr (.inr h)
    have hj' : j ∈ pre ++ k :: post := by simp only [List.mem_append, List.mem_cons] at hj ⊢; rcases hj with h | h; exact .inl h; exact .inr (.inr h)
    refine ha i j hi' hj' hne ?_ ?_
    ·obtain ⟨a, b, hab, hjb⟩ := hl
     rcases List.append_eq_append_iff.1 hab with ⟨c, rfl, hc⟩ | ⟨c, rfl, hc⟩
     ·exact ⟨pre ++ k :: c, b, by simp [hc], hjb⟩
     ·cases c with
      | nil =>
       simp only [List.append_nil, List.nil_append] at hc ⊢
       exact ⟨a ++ [k], b, by simp [hc], hjb⟩
      | cons x c =>
       simp only [List.cons_append, List.cons.injEq] at hc
       obtain ⟨rfl, rfl⟩ := hc
       refine ⟨a, c ++ k :: post, by simp, ?_⟩
       simp only [List.mem_append, List.mem_cons] at hjb ⊢
       rcases hjb with h | h
       ·exact .inl h
       ·exact .inr (.inr h)
    ·obtain ⟨a, b, rfl, hib⟩ := hs
     exact ⟨k :: a, b, rfl, hib⟩) hn2 hr1
   exact ⟨r', by simp only [D6, h1]; exact hr', he1.trans he'⟩
  ·simp at hr1
end
end Go.Lf
