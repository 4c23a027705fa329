/- A part of the proof. -/
import Derived.Test.YtpkbckdhkaggbaaDoorx6
set_option linter.all false
namespace Go.Lf
open Go
section
variable (LP : A2) {F : Gg}
def V9 (root : Option (Option Nat)) (dst k : Option Nat) (take : Bool) (pv : LV) : St → Option (Unit × St) := match pv with
 | .d (.fptr cs off) => match Ax k off cs with
  | some x => RP dst (.d x)
  | none => fun _ => none
 | .fptr cs off => match part k off cs with
  | some x => RP dst x
  | none => fun _ => none
 | .ptr j t g off => Bw (nU root j t g off fun cs => some cs) fun cs => match take, k, cs[off]? with
  | true, none, some (.hot z xs) => Bw (L2 root j t g off fun _ => some ((), cs.set off (.d (.slice z xs)))) fun _ => RP dst (.hot z xs)
  | _, _, _ => match part k off cs with
   | some x => RP dst x
   | none => fun _ => none
 | _ => fun _ => none
theorem RU {k : Nat} {root : Option (Option Nat)} {x : LV} (h1 : ∀ j t g off, x ≠ .ptr j t g off) (h2 : ∀ j t g, x ≠ .mref j t g) : Ak k root (some x) = true := by
 cases root with
 | none => rfl
 | some r => cases x <;> first | rfl | exact absurd rfl (h1 _ _ _ _) | exact absurd rfl (h2 _ _ _)
theorem H6 {C : AP} {g : Nat} {o : AG} {s : St} {p : vD} {pv : LV} (h : o.op.addr = some p) (hv : s.val LP p = pv) :
  EK LP C g o s = if Ak s.low.length o.root (some pv) = true then evalOp LP C g o.dst o.op s else none := by
 unfold EK
 rw [h, Option.map_some, hv]
theorem kb (C : AP) (g : Nat) {k : Option Nat} {p : vD} {take : Bool} {dst : Option Nat} {guard : Option (Nat × Bool)} {root : Option (Option Nat)} (s : St) :
  EK LP C g { dst, op := .load k p take, guard, root } s = (Bw (t4 LP p) (V9 root dst k take) s).map (·.2) := by
 obtain ⟨pv, hv⟩ : ∃ pv, s.val LP p = pv := ⟨_, rfl⟩
 rw [H6 LP rfl hv]
 simp only [Bw, t4, hv]
 have other : ∀ x : LV, (∀ j t g off, x ≠ .ptr j t g off) → (∀ j t g, x ≠ .mref j t g) → Ak s.low.length root (some x) = true := fun x h1 h2 => RU h1 h2
 cases pv with
 | d y =>
  rw [if_pos (other _ (by simp) (by simp))]
  simp only [evalOp, hv, V9]
  cases y with
  | fptr cs off => simp only; cases Ax k off cs with
   | none => rfl
   | some x => exact BN _ _ _
  | _ => rfl
 | fptr cs off =>
  rw [if_pos (other _ (by simp) (by simp))]
  simp only [evalOp, hv, V9]
  cases part k off cs with
  | none => rfl
  | some x => exact BN _ _ _
 | ptr j t g' off =>
  by_cases hr : Ak s.low.length root (some (.ptr j t g' off)) = true
  ·rw [if_pos hr]
   simp only [evalOp, hv, V9, Bw, nU, hr, if_true]
   cases hc : s.cells j t g' with
   | none => rfl
   | some cs =>
    simp only [Option.bind_some, Option.map_some]
    have plain : (match part k off cs with | some x => s.put dst x | none => none) = ((match part k off cs with | some x => RP dst x | none => fun _ => none : St → Option (Unit × St)) s).map (·.2) := by
     cases part k off cs with
     | none => rfl
     | some x => exact BN _ _ _
    cases take with
    | false => exact plain
    | true =>
     cases k with
     | some n => exact plain
     | none =>
      cases hx : cs[off]? with
      | none => exact plain
      | some x =>
       cases x with
       | hot z xs =>
        simp only [L2, hr, if_true, hc, Bw]
        exact BN _ _ _
       | _ => exact plain
  ·rw [if_neg hr]
   simp only [V9, Bw, nU, hr]
   rfl
 | mref j t g' =>
  simp only [V9]
  split
  ·simp only [evalOp, hv]; rfl
  ·rfl
 | _ =>
  rw [if_pos (other _ (by simp) (by simp))]
  simp only [evalOp, hv, V9]
  rfl
theorem ez {root : Option (Option Nat)} {dst k : Option Nat} {take : Bool} (hd : ∀ d, dst = some d → F.W d) (hr : F.Rooted root) (hh : take = true → F.Holds root) (pv : LV) :
  Ac (V9 root dst k take pv) F := by
 unfold V9
 split
 ·split
  ·exact DI hd _
  ·exact Ac.fail
 ·split
  ·exact DI hd _
  ·exact Ac.fail
 ·refine Ac.bind (eJ hr _ _ _ _ _) fun cs => ?_
  split
  ·exact Ac.bind (Q9 (hh rfl) _ _ _ _ _) fun _ => DI hd _
  ·split
   ·exact DI hd _
   ·exact Ac.fail
 ·exact Ac.fail
theorem jk (C : AP) (g : Nat) {k : Option Nat} {p : vD} {take : Bool} {dst : Option Nat} {guard : Option (Nat × Bool)} {root : Option (Option Nat)} :
  C5 (EK LP C g { dst, op := .load k p take, guard, root }) (AG.foot { dst, op := .load k p take, guard, root }) := by
 refine A4 (fun s => kb LP C g s) (Ac.bind (FH LP (dV { dst, op := .load k p take, guard, root } (by simp [u5.opds]))) fun pv => ez (fun d hd => ?_) ?_ (fun ht => ?_) pv)
 ·subst hd
  cases take <;> cases root <;> first | exact .inl rfl | exact .inr (.inl (by simp [AG.foot]))
 ·cases take <;> cases root <;> first
   | exact .inl rfl
   | exact .inr rfl
   | skip
  ·rename_i q; cases q with
   | none => trivial
   | some q => exact .inl (by simp [AG.foot, own])
  ·rename_i q; cases q with
   | none => trivial
   | some q => exact .inr (.inr (by simp [AG.foot, own]))
 ·subst ht
  cases root with
  | none => exact rfl
  | some q => cases q with
   | none => trivial
   | some q => simp [Gg.Holds, AG.foot, own]
def an (root : Option (Option Nat)) (n : Nat) (x : vD) (pv : LV) : St → Option (Unit × St) := match pv with
 | .ptr j t g off => Bw (LD LP x) fun xv => match xv.known with
  | some xs => L2 root j t g off fun cs => if xs.length = n ∧ off + n ≤ cs.length ∧ xs.all LV.cellOk then some ((), setCells cs off xs) else none
  | none => fun _ => none
 | _ => fun _ => none
theorem PM (x : vD) (s : St) : (s.take LP x).2.low = s.low := by
 unfold St.take
 cases x with
 | tmp t => simp only; split <;> rfl
 | _ => rfl
theorem fX (C : AP) (g : Nat) {n : Nat} {p x : vD} {dst : Option Nat} {guard : Option (Nat × Bool)} {root : Option (Option Nat)} (s : St) :
  EK LP C g { dst, op := .store n p x, guard, root } s = (Bw (t4 LP p) (an LP root n x) s).map (·.2) := by
 obtain ⟨pv, hv⟩ : ∃ pv, s.val LP p = pv := ⟨_, rfl⟩
 rw [H6 LP rfl hv]
 simp only [Bw, t4, hv]
 cases pv with
 | ptr j t g' off =>
  simp only [an, Bw, LD]
  by_cases hr : Ak s.low.length root (some (.ptr j t g' off)) = true
  ·rw [if_pos hr]
   simp only [evalOp, hv]
   cases hk : (s.take LP x).1.known with
   | none => cases (s.take LP x).2.cells j t g' <;> rfl
   | some xs =>
    simp only [L2, PM, hr, if_true]
    cases (s.take LP x).2.cells j t g' with
    | none => rfl
    | some cs => simp only; split <;> rfl
  ·rw [if_neg hr]
   cases hk : (s.take LP x).1.known with
   | none => rfl
   | some xs => simp only [L2, PM, hr]; rfl
 | _ =>
  simp only [an, evalOp, hv]
  split <;> rfl
theorem ev (C : AP) (g : Nat) {n : Nat} {p x : vD} {dst : Option Nat} {guard : Option (Nat × Bool)} {root : Option (Option Nat)} :
  C5 (EK LP C g { dst, op := .store n p x, guard, root }) (AG.foot { dst, op := .store n p x, guard, root }) := by
 refine A4 (fun s => fX LP C g s) (Ac.bind (FH LP (dV { dst, op := .store n p x, guard, root } (by simp [u5.opds]))) fun pv => ?_)
 unfold an
 split
 ·refine Ac.bind (JP LP fun t ht => ?_) fun xv => ?_
  ·subst ht
   cases root <;> first | exact .inl rfl | exact .inr (.inl (by simp [AG.foot, vD.tmp?]))
  ·split
   ·refine Q9 ?_ _ _ _ _ _
    cases root with
    | none => exact rfl
    | some q => cases q with
     | none => trivial
     | some q => simp [Gg.Holds, AG.foot, own]
   ·exact Ac.fail
 ·exact Ac.fail
def VB (root : Option (Option Nat)) (n : Nat) (v : vD) (mv kv : LV) : St → Option (Unit × St) := match mv, kv.key n with
 | .mref j t g, some key => Bw (LD LP v) fun xv => K1 root j t g n fun es => match AM key es 0 with
  | some (i, _) => some ((), es.set i (key, xv))
  | none => some ((), es ++ [(key, xv)])
 | _, _ => fun _ => none
theorem Z3 (C : AP) (g : Nat) {n : Nat} {m k v : vD} {dst : Option Nat} {guard : Option (Nat × Bool)} {root : Option (Option Nat)} (s : St) :
  EK LP C g { dst, op := .mapset n m k v, guard, root } s = (Bw (t4 LP m) (fun mv => Bw (t4 LP k) (VB LP root n v mv)) s).map (·.2) := by
 obtain ⟨pv, hv⟩ : ∃ pv, s.val LP m = pv := ⟨_, rfl⟩
 rw [H6 LP rfl hv]
 simp only [Bw, t4, hv]
 cases pv with
 | mref j t g' =>
  simp only [VB, evalOp, hv]
  cases (s.val LP k).key n with
  | none => split <;> rfl
  | some key =>
   simp only [Bw, LD, K1, PM]
   split
   ·cases (s.take LP v).2.entries j t g' n with
    | none => rfl
    | some es =>
     simp only
     cases AM key es 0 <;> rfl
   ·rfl
 | _ =>
  simp only [VB, evalOp, hv]
  split <;> rfl
theorem qP {o : AG} (h : o.foot.bar = true ∨ o.foot.wb = own o.root) (hn : o.root = none → o.foot.bar = true) : o.foot.Holds o.root := by
 cases hr : o.root with
 | none => exact hn hr
 | some q => cases q with
  | none => trivial
  | some q =>
   rcases h with h | h
   ·obtain ⟨dst, op, guard, root⟩ := o
    simp only at hr
    subst hr
    cases op <;> (try (simp [AG.foot] at h; done))
    case move x b => cases b <;> simp [AG.foot] at h
    case extract i x b => cases b <;> simp [AG.foot] at h
    case load k p b => cases b <;> simp [AG.foot] at h
    case call f as vis => cases vis <;> simp [AG.foot] at h
   ·show q ∈ o.foot.wb
    rw [h, hr]; simp [own]
theorem bZ (C : AP) (g : Nat) {n : Nat} {m k v : vD} {dst : Option Nat} {guard : Option (Nat × Bool)} {root : Option (Option Nat)} :
  C5 (EK LP C g { dst, op := .mapset n m k v, guard, root }) (AG.foot { dst, op := .mapset n m k v, guard, root }) := by
 refine A4 (fun s => Z3 LP C g s) (Ac.bind (FH LP (dV { dst, op := .mapset n m k v, guard, root } (by simp [u5.opds]))) fun mv =>
  Ac.bind (FH LP (dV { dst, op := .mapset n m k v, guard, root } (by simp [u5.opds]))) fun kv => ?_)
 unfold VB
 split
 ·refine Ac.bind (JP LP fun t ht => ?_) fun xv => ?_
  ·subst ht
   cases root <;> first | exact .inl rfl | exact .inr (.inl (by simp [AG.foot, vD.tmp?]))
  ·refine LN ?_ _ _ _ _ _
   cases root with
   | none => exact rfl
   | some q => cases q with
    | none => trivial
    | some q => simp [Gg.Holds, AG.foot, own]
 ·exact Ac.fail
def VP (root : Option (Option Nat)) (n : Nat) (v : vD) (mv iv : LV) : St → Option (Unit × St) := match mv, E8 iv with
 | .mref j t g, some i => Bw (LD LP v) fun xv => K1 root j t g n fun es => match es[i]? with
  | some (key, _) => some ((), es.set i (key, xv))
  | none => none
 | _, _ => fun _ => none
theorem dN (C : AP) (g : Nat) {n : Nat} {m k v : vD} {dst : Option Nat} {guard : Option (Nat × Bool)} {root : Option (Option Nat)} (s : St) :
  EK LP C g { dst, op := .mstore n m k v, guard, root } s = (Bw (t4 LP m) (fun mv => Bw (t4 LP k) (VP LP root n v mv)) s).map (·.2) := by
 obtain ⟨pv, hv⟩ : ∃ pv, s.val LP m = pv := ⟨_, rfl⟩
 rw [H6 LP rfl hv]
 simp only [Bw, t4, hv]
 cases pv with
 | mref j t g' =>
  simp only [VP, evalOp, hv]
  cases E8 (s.val LP k) with
  | none => split <;> rfl
  | some i =>
   simp only [Bw, LD, K1, PM]
   split
   ·cases (s.take LP v).2.entries j t g' n with
    | none => rfl
    | some es =>
     simp only
     cases es[i]? <;> rfl
   ·rfl
 | _ =>
  simp only [VP, evalOp, hv]
  split <;> rfl
theorem bi (C : AP) (g : Nat) {n : Nat} {m k v : vD} {dst : Option Nat} {guard : Option (Nat × Bool)} {root : Option (Option Nat)} :
  C5 (EK LP C g { dst, op := .mstore n m k v, guard, root }) (AG.foot { dst, op := .mstore n m k v, guard, root }) := by
 refine A4 (fun s => dN LP C g s) (Ac.bind (FH LP (dV { dst, op := .mstore n m k v, guard, root } (by simp [u5.opds]))) fun mv =>
  Ac.bind (FH LP (dV { dst, op := .mstore n m k v, guard, root } (by simp [u5.opds]))) fun kv => ?_)
 unfold VP
 split
 ·refine Ac.bind (JP LP fun t ht => ?_) fun xv => ?_
  ·subst ht
   cases root <;> first | exact .inl rfl | exact .inr (.inl (by simp [AG.foot, vD.tmp?]))
  ·refine LN ?_ _ _ _ _ _
   cases root with
   | none => exact rfl
   | some q => cases q with
    | none => trivial
    | some q => simp [Gg.Holds, AG.foot, own]
 ·exact Ac.fail
def U2 (root : Option (Option Nat)) (dst : Option Nat) (n : Nat) (z : DV) (mv kv : LV) : St → Option (Unit × St) := match mv, kv.key n with
 | .mref j t g, some key => Bw (K1 root j t g n fun es => match AM key es 0 with
  | some (i, v) => some (LV.tup [v, .d (.int i)], es.set i (key, v.cool))
  | none => some (.tup [.d z, .d (.int es.length)], es ++ [(key, .d z)])) fun r => RP dst r
 | _, _ => fun _ => none
theorem cf (C : AP) (g : Nat) {n : Nat} {m k : vD} {z : DV} {dst : Option Nat} {guard : Option (Nat × Bool)} {root : Option (Option Nat)} (s : St) :
  EK LP C g { dst, op := .mentry n m k z, guard, root } s = (Bw (t4 LP m) (fun mv => Bw (t4 LP k) (U2 root dst n z mv)) s).map (·.2) := by
 obtain ⟨pv, hv⟩ : ∃ pv, s.val LP m = pv := ⟨_, rfl⟩
 rw [H6 LP rfl hv]
 simp only [Bw, t4, hv]
 cases pv with
 | mref j t g' =>
  simp only [U2, evalOp, hv]
  cases (s.val LP k).key n with
  | none => split <;> rfl
  | some key =>
   simp only [Bw, K1]
   split
   ·cases s.entries j t g' n with
    | none => rfl
    | some es =>
     simp only
     cases AM key es 0 with
     | none => exact BN _ _ _
     | some r => exact BN _ _ _
   ·rfl
 | _ =>
  simp only [U2, evalOp, hv]
  split <;> rfl
theorem bX (C : AP) (g : Nat) {n : Nat} {m k : vD} {z : DV} {dst : Option Nat} {guard : Option (Nat × Bool)} {root : Option (Option Nat)} :
  C5 (EK LP C g { dst, op := .mentry n m k z, guard, root }) (AG.foot { dst, op := .mentry n m k z, guard, root }) := by
 refine A4 (fun s => cf LP C g s) (Ac.bind (FH LP (dV { dst, op := .mentry n m k z, guard, root } (by simp [u5.opds]))) fun mv =>
  Ac.bind (FH LP (dV { dst, op := .mentry n m k z, guard, root } (by simp [u5.opds]))) fun kv => ?_)
 unfold U2
 split
 ·refine Ac.bind (LN ?_ _ _ _ _ _) fun r => DI (fun d hd => ?_) r
  ·cases root with
   | none => exact rfl
   | some q => cases q with
    | none => trivial
    | some q => simp [Gg.Holds, AG.foot, own]
  ·subst hd
   cases root <;> first | exact .inl rfl | exact .inr (.inl (by simp [AG.foot]))
 ·exact Ac.fail
def ZT (root : Option (Option Nat)) (n : Nat) (mv kv : LV) : St → Option (Option LV × St) := match kv.key n with
 | none => fun _ => none
 | some key => match mv with
  | .mref j t g => qM root j t g n fun es => some ((AM key es 0).map fun p => p.2.copy)
  | .d (.fmap n' es) => if n' = n then fun s => some ((AM key es 0).map fun p => .d p.2, s) else fun _ => none
  | .d .nilmap => fun s => some (none, s)
  | _ => fun _ => none
theorem cm (C : AP) (g : Nat) {n : Nat} {m k : vD} {ok : Bool} {z : DV} {dst : Option Nat} {guard : Option (Nat × Bool)} {root : Option (Option Nat)} (s : St) :
  EK LP C g { dst, op := .lookup n m k ok z, guard, root } s = (Bw (t4 LP m) (fun mv => Bw (t4 LP k) fun kv => Bw (ZT root n mv kv) fun r =>
   RP dst (if ok then LV.norm (.tup [r.getD (.d z), .d (.bool r.isSome)]) else r.getD (.d z))) s).map (·.2) := by
 obtain ⟨pv, hv⟩ : ∃ pv, s.val LP m = pv := ⟨_, rfl⟩
 rw [H6 LP rfl hv]
 simp only [Bw, t4, hv, ZT]
 have vN : ∀ r : Option LV, (if ok = true then s.put dst (LV.norm (.tup [r.getD (.d z), .d (.bool r.isSome)])) else s.put dst (r.getD (.d z))) = (RP dst (if ok = true then LV.norm (.tup [r.getD (.d z), .d (.bool r.isSome)]) else r.getD (.d z)) s).map (·.2) := by
  intro r; cases ok <;> exact BN _ _ _
 simp only [evalOp]
 cases (s.val LP k).key n with
 | none => split <;> rfl
 | some key =>
  simp only [hv]
  cases pv with
  | mref j t g' =>
   simp only [qM]
   split
   ·cases s.entries j t g' n with
    | none => rfl
    | some es => exact vN _
   ·rfl
  | d y =>
   rw [if_pos (RU (by simp) (by simp))]
   cases y with
   | fmap n' es =>
    simp only
    split
    ·exact vN _
    ·rfl
   | nilmap => exact vN none
   | _ => rfl
  | _ =>
   simp only
   split <;> rfl
theorem au (C : AP) (g : Nat) {n : Nat} {m k : vD} {ok : Bool} {z : DV} {dst : Option Nat} {guard : Option (Nat × Bool)} {root : Option (Option Nat)} :
  C5 (EK LP C g { dst, op := .lookup n m k ok z, guard, root }) (AG.foot { dst, op := .lookup n m k ok z, guard, root }) := by
 refine A4 (fun s => cm LP C g s) (Ac.bind (FH LP (dV { dst, op := .lookup n m k ok z, guard, root } (by simp [u5.opds]))) fun mv =>
  Ac.bind (FH LP (dV { dst, op := .lookup n m k ok z, guard, root } (by simp [u5.opds]))) fun kv => Ac.bind ?_ fun r => DI (fun d hd => ?_) _)
 ·unfold ZT
  split
  ·exact Ac.fail
  ·split
   ·refine eH ?_ _ _ _ _ _
    cases root with
    | none => exact .inl rfl
    | some q => cases q with
     | none => trivial
     | some q => exact .inl (by simp [AG.foot, own])
   ·split
    ·exact Ac.ret _
    ·exact Ac.fail
   ·exact Ac.ret _
   ·exact Ac.fail
 ·subst hd
  cases root <;> exact .inr (.inl (by simp [AG.foot]))
end
end Go.Lf
namespace Go.Lf
open Go
section
variable (LP : A2) {F : Gg}
def Xa (vis : List Nat) (K : List Fr → Nat → Option (LV × List Fr × Nat)) (s : St) : Option (LV × St) :=
 match K (s.low ++ [{ env := s.env.keep vis, loop := none }]) s.ctr with
 | some (v, low', c') => match low'.getLast? with
  | some fr => if low'.length = s.low.length + 1 then some (v, { env := uI.merge vis s.env fr.env, low := low'.dropLast, ctr := c' }) else none
  | none => none
 | none => none
theorem cZ {vis : List Nat} (K : List Fr → Nat → Option (LV × List Fr × Nat)) (hv : ∀ t, t ∈ vis → t ∈ F.wb) (hl : F.lw = true) : Ac (Xa vis K) F where
 turns s a s' h := by
  unfold Xa at h
  split at h
  ·rename_i v low' c' hK
   split at h
   ·rename_i fr hfr
    split at h
    ·rename_i hlen
     simp only [Option.some.injEq, Prod.mk.injEq] at h
     obtain ⟨_, rfl⟩ := h
     have out : ∀ t, t ∉ F.wb → (uI.merge vis s.env fr.env).get t = s.env.get t := fun t ht => by
      rw [KE, if_neg (by simp only [List.contains_eq_mem, decide_eq_true_eq]; exact fun h => ht (hv t h))]
     exact ⟨by simp [hlen], fun t ht => out t fun h => ht (.inr (.inr h)), fun _ t ht => .inl (out t ht), fun _ h => by rw [hl] at h; simp at h, fun _ h => by rw [hl] at h; simp at h⟩
    ·simp at h
   ·simp at h
  ·simp at h
 same s a s' r h hag := by
  have hlow := hag.low (.inr (.inl hl))
  have hctr := hag.ctr (.inl hl)
  have hkeep : s.env.keep vis = r.env.keep vis := Wt fun t ht => hag.here t (.inr (.inr (.inr (hv t ht))))
  unfold Xa at h
  split at h
  ·rename_i v low' c' hK
   split at h
   ·rename_i fr hfr
    split at h
    ·rename_i hlen
     simp only [Option.some.injEq, Prod.mk.injEq] at h
     obtain ⟨rfl, rfl⟩ := h
     refine ⟨{ env := uI.merge vis r.env fr.env, low := low'.dropLast, ctr := c' }, ?_, fun t ht => ?_, fun _ => rfl, fun _ => rfl⟩
     ·unfold Xa
      rw [← hlow, ← hctr, ← hkeep, hK]
      simp only [hfr, hlen, if_true]
     ·simp only [KE]
      rw [hag.same.env t ht]
    ·simp at h
   ·simp at h
  ·simp at h
def rO (C : AP) (fv : LV) (avs : List LV) (low : List Fr) (ctr : Nat) : Option (LV × List Fr × Nat) := match fv with
 | .yield j g => (C.round j g avs low ctr).map fun r => (.d (.bool r.1), r.2)
 | fv => match target fv with
  | some (f, a, b) => C.call f (a ++ avs ++ b) low ctr
  | none => none
theorem nZ (C : AP) (g : Nat) {f : vD} {args : List vD} {vis : List Nat} {dst : Option Nat} {guard : Option (Nat × Bool)} {root : Option (Option Nat)} (s : St) :
  EK LP C g { dst, op := .call f args (some vis), guard, root } s =
   (Bw (fun s => some (s.val LP f, s)) (fun fv => Bw (fun s => some (args.map (s.val LP), s)) fun avs => Bw (Xa vis (rO C fv avs)) fun v => RP dst v) s).map (·.2) := by
 rw [As LP rfl]
 simp only [Bw, Xa, rO, evalOp]
 cases s.val LP f with
 | yield j g' =>
  simp only
  cases C.round j g' (args.map (s.val LP)) (s.low ++ [{ env := s.env.keep vis, loop := none }]) s.ctr with
  | none => rfl
  | some r =>
   obtain ⟨b, low', c'⟩ := r
   simp only [Option.map_some]
   cases low'.getLast? with
   | none => rfl
   | some fr =>
    simp only
    split
    ·exact BN _ _ _
    ·rfl
 | _ =>
  simp only
  generalize target _ = tt
  cases tt with
  | none => rfl
  | some fab =>
   obtain ⟨f', a, b⟩ := fab
   simp only
   cases C.call f' (a ++ args.map (s.val LP) ++ b) (s.low ++ [{ env := s.env.keep vis, loop := none }]) s.ctr with
   | none => rfl
   | some r =>
    obtain ⟨v, low', c'⟩ := r
    simp only
    cases low'.getLast? with
    | none => rfl
    | some fr =>
     simp only
     split
     ·exact BN _ _ _
     ·rfl
theorem i4 (C : AP) (g : Nat) {f : vD} {args : List vD} {vis : List Nat} {dst : Option Nat} {guard : Option (Nat × Bool)} {root : Option (Option Nat)} :
  C5 (EK LP C g { dst, op := .call f args (some vis), guard, root }) (AG.foot { dst, op := .call f args (some vis), guard, root }) := by
 refine A4 (fun s => nZ LP C g s) (Ac.bind (EA (f := fun s => some (s.val LP f)) fun s r h => ?_) fun fv => Ac.bind (EA (f := fun s => some (args.map (s.val LP))) fun s r h => ?_) fun avs =>
  Ac.bind (cZ _ (fun t ht => ht) rfl) fun v => DI (fun d hd => ?_) v)
 ·rw [h.val LP (dV { dst, op := .call f args (some vis), guard, root } (by simp [u5.opds]))]
 ·rw [Gv fun x hx => h.val LP (dV { dst, op := .call f args (some vis), guard, root } (by simp [u5.opds, hx]))]
 ·subst hd; exact .inr (.inl (by simp [AG.foot]))
theorem UV (C : AP) (g : Nat) (o : AG) : C5 (EK LP C g o) o.foot := by
 by_cases hv : o.op.isValue = true
 ·exact dp LP C g hv
 ·obtain ⟨dst, op, guard, root⟩ := o
  cases op <;> try (exact absurd rfl hv)
  case move x b => cases b <;> first | exact absurd rfl hv | exact jH LP C g
  case alloc => exact dY LP C g
  case box => exact lJ LP C g
  case mkmap => exact dj LP C g
  case mapset => exact bZ LP C g
  case load => exact jk LP C g
  case store => exact ev LP C g
  case call f as vis => cases vis <;> first | exact absurd rfl hv | exact i4 LP C g
  case append => exact aG LP C g
  case extract => exact ZL LP C g
  case lookup => exact au LP C g
  case mentry => exact bX LP C g
  case mstore => exact bi LP C g
  case bad => exact A4 (h := fun _ => none) (fun s => by rw [As LP rfl]; rfl) Ac.fail
theorem ij {o : AG} {d : Nat} (h : o.dst = some d) : o.foot.W d := by
 by_cases hv : o.op.isValue = true
 ·exact .inr (.inl (by rw [XD hv]; exact lQ h))
 ·obtain ⟨dst, op, guard, root⟩ := o
  simp only at h
  subst h
  cases op
  case move x b => cases b <;> first | exact absurd rfl hv | exact .inr (.inl (by simp [AG.foot]))
  case append => exact .inr (.inl (by simp [AG.foot]))
  case alloc => exact .inr (.inr (by simp [AG.foot]))
  case box => exact .inr (.inr (by simp [AG.foot]))
  case mkmap => exact .inr (.inr (by simp [AG.foot]))
  case extract i x b => cases b <;> exact .inr (.inl (by simp [AG.foot]))
  case mapset => cases root <;> first | exact .inl rfl | exact .inr (.inl (by simp [AG.foot]))
  case load k p b => cases b <;> cases root <;> first | exact .inl rfl | exact .inr (.inl (by simp [AG.foot]))
  case store => cases root <;> first | exact .inl rfl | exact .inr (.inl (by simp [AG.foot]))
  case mentry => cases root <;> first | exact .inl rfl | exact .inr (.inl (by simp [AG.foot]))
  case mstore => cases root <;> first | exact .inl rfl | exact .inr (.inl (by simp [AG.foot]))
  case lookup => cases root <;> exact .inr (.inl (by simp [AG.foot]))
  case call f as vis => cases vis <;> first | exact absurd rfl hv | exact .inr (.inl (by simp [AG.foot]))
  case bad => exact .inr (.inl (by simp [AG.foot]))
  all_goals exact absurd rfl hv
theorem Qm (C : AP) (g : Nat) (o : AG) : C5 (Ah LP C g o) o.foot := by
 cases hg : o.guard with
 | none =>
  have : Ah LP C g o = EK LP C g o := by
   funext s; unfold Ah; rw [hg]; rfl
  rw [this]; exact UV LP C g o
 | some tw =>
  obtain ⟨t, want⟩ := tw
  have ht : t ∈ o.foot.rd := kr o (List.mem_append_right _ (by rw [hg]; simp))
  have hR := UV LP C g o
  have hR' : Ac (fun s => (EK LP C g o s).map fun s' => ((), s')) o.foot := ⟨fun s a s' h => by
    simp only [Option.map_eq_some_iff, Prod.mk.injEq, true_and, exists_eq_right] at h
    exact hR.turns s s' h, fun s a s' r h hag => by
    simp only [Option.map_eq_some_iff, Prod.mk.injEq, true_and, exists_eq_right] at h
    obtain ⟨r', hr, hs⟩ := hR.same s s' r h hag
    exact ⟨r', by simp [hr], hs⟩⟩
  refine A4 (h := Bw (fun s => some (s.slot t, s)) fun x => match x with
   | .d (.bool b) => if b = want then (fun s => (EK LP C g o s).map fun s' => ((), s')) else RP o.dst (.d .undef)
   | .d .undef => RP o.dst (.d .undef)
   | _ => fun _ => none) (fun s => ?_) (Ac.bind (EA (f := fun s => some (s.slot t)) fun s r h => by rw [h.slot (.inl ht)]) fun x => ?_)
  ·unfold Ah
   rw [hg]
   simp only [Bw]
   cases s.slot t with
   | d y =>
    cases y with
    | bool b =>
     simp only
     split
     ·show EK LP C g o s = ((EK LP C g o s).map fun s' => ((), s')).map (·.2)
      cases EK LP C g o s <;> rfl
     ·exact BN _ _ _
    | undef => exact BN _ _ _
    | _ => rfl
   | _ => rfl
  ·split
   ·split
    ·exact hR'
    ·exact DI (fun d hd => ij hd) _
   ·exact DI (fun d hd => ij hd) _
   ·exact Ac.fail
def DU (C : AP) (c : Nat) (ops : List AG) : List Nat → St → Option St
 | [], s => some s
 | i :: r, s => match Ah LP C (c + i) (ops.getD i default) s with
  | some s' => DU C c ops r s'
  | none => none
theorem PH (C : AP) (c : Nat) (ops : List AG) : ∀ (l : List Nat) {s r s' : St}, XK s r → DU LP C c ops l s = some s' → ∃ r', DU LP C c ops l r = some r' ∧ XK s' r'
 | [], s, r, s', he, h => by
  simp only [DU, Option.some.injEq] at h
  subst h
  exact ⟨r, rfl, he⟩
 | i :: l, s, r, s', he, h => by
  simp only [DU] at h
  split at h
  ·rename_i s1 h1
   obtain ⟨r1, hr1, he1⟩ := (Qm LP C (c + i) (ops.getD i default)).congr he h1
   obtain ⟨r', hr', he'⟩ := PH C c ops l he1 h
   exact ⟨r', by simp only [DU, hr1]; exact hr', he'⟩
  ·simp at h
theorem PR (C : AP) (c : Nat) (ops : List AG) {k : Nat} : ∀ (pre post : List Nat) {s s' : St}, (∀ i, i ∈ pre → (ops.getD i default).foot.apart (ops.getD k default).foot = true) →
  DU LP C c ops (pre ++ k :: post) s = some s' → ∃ r', DU LP C c ops (k :: (pre ++ post)) s = some r' ∧ XK s' r'
 | [], post, s, s', _, h => ⟨s', h, .refl _⟩
 | i :: pre, post, s, s', ha, h => by
  simp only [List.cons_append, DU] at h
  split at h
  ·rename_i s1 h1
   obtain ⟨r1, hr1, he1⟩ := PR C c ops pre post (fun j hj => ha j (by simp [hj])) h
   simp only [DU] at hr1
   split at hr1
   ·rename_i s2 h2
    obtain ⟨a, b, ha1, hb1, hab⟩ := jD (Qm LP C (c + i) (ops.getD i default)) (Qm LP C (c + k) (ops.getD k default)) (ha i (by simp)) h1 h2
    obtain ⟨r', hr', he'⟩ := PH LP C c ops (pre ++ post) hab hr1
    refine ⟨r', ?_, he1.trans he'⟩
    simp only [DU, ha1, List.cons_append, hb1]
    exact hr'
   ·simp at hr1
  ·simp at h
theorem P4 (C : AP) (c : Nat) (ops : List AG) : ∀ (σ l : List Nat) {s s' : St}, σ.Perm l →
  (∀ i k, i ∈ l → k ∈ l → i ≠ k → (∃ a b, l = a ++ i :: b ∧ k ∈ b) → (∃ a b, σ = a ++ k :: b ∧ i ∈ b) → (ops.getD i default).foot.apart (ops.getD k default).foot = true) → l.Nodup →
  DU LP C c ops l s = some s' → ∃ r', DU LP C c ops σ s = some r' ∧ XK s' r'
 | [], l, s, s', hp, _, _, h => by
  have : l = [] := hp.symm.eq_nil
  subst this
  exact ⟨s', h, .refl _⟩
 | k :: σ, l, s, s', hp, ha, hn, h => by
  have hk : k ∈ l := hp.subset (by simp)
  obtain ⟨pre, post, rfl⟩ := List.append_of_mem hk
  have hperm : σ.Perm (pre ++ post) := by
   have : (k :: σ).Perm (k :: (pre ++ post)) := hp.trans List.perm_middle
   exact this.cons_inv
  have hn' : (k :: (pre ++ post)).Nodup := (List.perm_middle.nodup_iff).1 hn
  obtain ⟨hknot, hn2⟩ := List.nodup_cons.1 hn'
  obtain ⟨r1, hr1, he1⟩ := PR LP C c ops pre post (fun i hi => by
   have hne : i ≠ k := fun e => by subst e; exact hknot (by simp [hi])
   obtain ⟨a, b, rfl⟩ := List.append_of_mem hi
   exact ha i k (by simp) (by simp) hne ⟨a, b ++ k :: post, by simp, by simp⟩ ⟨[], σ, rfl, hperm.symm.subset (by simp)⟩) h
  simp only [DU] at hr1
  split at hr1
  ·rename_i s1 h1
   obtain ⟨r', hr', he'⟩ := P4 C c ops σ (pre ++ post) hperm (fun i j hi hj hne hl hs => by
    have hi' : i ∈ pre ++ k :: post := by simp only [List.mem_append, List.mem_cons] at hi ⊢; rcases hi with h | h; exact .inl h; exact .inr (.inr h)
    have hj' : j ∈ pre ++ k :: post := by simp only [List.mem_append, List.mem_cons] at hj ⊢; rcases hj with h | h; exact .inl h; exact .inr (.inr h)
    refine ha i j hi' hj' hne ?_ ?_
    ·obtain ⟨a, b, hab, hjb⟩ := hl
     rcases List.append_eq_append_iff.1 hab with ⟨c, rfl, hc⟩ | ⟨c, rfl, hc⟩
     ·exact ⟨pre ++ k :: c, b, by simp [hc], hjb⟩
     ·cases c with
      | nil =>
       simp only [List.append_nil, List.nil_append] at hc ⊢
       exact ⟨a ++ [k], b, by simp [hc], hjb⟩
      | cons x c =>
       simp only [List.cons_append, List.cons.injEq] at hc
       obtain ⟨rfl, rfl⟩ := hc
       refine ⟨a, c ++ k :: post, by simp, ?_⟩
       simp only [List.mem_append, List.mem_cons] at hjb ⊢
       rcases hjb with h | h
       ·exact .inl h
       ·exact .inr (.inr h)
    ·obtain ⟨a, b, rfl, hib⟩ := hs
     exact ⟨k :: a, b, rfl, hib⟩) hn2 hr1
   exact ⟨r', by simp only [DU, h1]; exact hr', he1.trans he'⟩
  ·simp at hr1
end
end Go.Lf
