/- A part of the proof. -/
import Derived.Test.YtbkliocalcihjaaDoorx4
import Derived.Test.YtbkliocalcihjaaDoorx5
import Derived.Orders
import Derived.AtR
import Derived.Calls
set_option linter.all false
namespace Go.Lf
open Go
section
variable (LP : Aw) {F : GL}
def XT (root : Option (Option Nat)) (dst k : Option Nat) (take : Bool) (pv : LV) : St → Option (Unit × St) := match pv with
 | .d (.fptr cs off) => match Ak k off cs with
  | some x => R7 dst (.d x)
  | none => fun _ => none
 | .fptr cs off => match part k off cs with
  | some x => R7 dst x
  | none => fun _ => none
 | .ptr j t g off => B5 (rM root j t g off fun cs => some cs) fun cs => match take, k, cs[off]? with
  | true, none, some (.hot z xs) => B5 (L1 root j t g off fun _ => some ((), cs.set off (.d (.slice z xs)))) fun _ => R7 dst (.hot z xs)
  | _, _, _ => match part k off cs with
   | some x => R7 dst x
   | none => fun _ => none
 | _ => fun _ => none
theorem Re {k : Nat} {root : Option (Option Nat)} {x : LV} (h1 : ∀ j t g off, x ≠ .ptr j t g off) (h2 : ∀ j t g, x ≠ .mref j t g) : An k root (some x) = true := by
 cases root with
 | none => rfl
 | some r => cases x <;> first | rfl | exact absurd rfl (h1 _ _ _ _) | exact absurd rfl (h2 _ _ _)
theorem Ib {C : AM} {g : Nat} {o : AD} {s : St} {p : Opd} {pv : LV} (h : o.op.addr = some p) (hv : s.val LP p = pv) :
  Ea LP C g o s = if An s.low.length o.root (some pv) = true then evalOp LP C g o.dst o.op s else none := by
 unfold Ea
 rw [h, Option.map_some, hv]
theorem na (C : AM) (g : Nat) {k : Option Nat} {p : Opd} {take : Bool} {dst : Option Nat} {guard : Option (Nat × Bool)} {root : Option (Option Nat)} (s : St) :
  Ea LP C g { dst, op := .load k p take, guard, root } s = (B5 (rdV LP p) (XT root dst k take) s).map (·.2) := by
 obtain ⟨pv, hv⟩ : ∃ pv, s.val LP p = pv := ⟨_, rfl⟩
 rw [Ib LP rfl hv]
 simp only [B5, rdV, hv]
 have other : ∀ x : LV, (∀ j t g off, x ≠ .ptr j t g off) → (∀ j t g, x ≠ .mref j t g) → An s.low.length root (some x) = true := fun x h1 h2 => Re h1 h2
 cases pv with
 | d y =>
  rw [if_pos (other _ (by simp) (by simp))]
  simp only [evalOp, hv, XT]
  cases y with
  | fptr cs off => simp only; cases Ak k off cs with
   | none => rfl
   | some x => exact BS _ _ _
  | _ => rfl
 | fptr cs off =>
  rw [if_pos (other _ (by simp) (by simp))]
  simp only [evalOp, hv, XT]
  cases part k off cs with
  | none => rfl
  | some x => exact BS _ _ _
 | ptr j t g' off =>
  by_cases hr : An s.low.length root (some (.ptr j t g' off)) = true
  ·rw [if_pos hr]
   simp only [evalOp, hv, XT, B5, rM, hr, if_true]
   cases hc : s.cells j t g' with
   | none => rfl
   | some cs =>
    simp only [Option.bind_some, Option.map_some]
    have plain : (match part k off cs with | some x => s.put dst x | none => none) = ((match part k off cs with | some x => R7 dst x | none => fun _ => none : St → Option (Unit × St)) s).map (·.2) := by
     cases part k off cs with
     | none => rfl
     | some x => exact BS _ _ _
    cases take with
    | false => exact plain
    | true =>
     cases k with
     | some n => exact plain
     | none =>
      cases hx : cs[off]? with
      | none => exact plain
      | some x =>
       cases x with
       | hot z xs =>
        simp only [L1, hr, if_true, hc, B5]
        exact BS _ _ _
       | _ => exact plain
  ·rw [if_neg hr]
   simp only [XT, B5, rM, hr]
   rfl
 | mref j t g' =>
  simp only [XT]
  split
  ·simp only [evalOp, hv]; rfl
  ·rfl
 | _ =>
  rw [if_pos (other _ (by simp) (by simp))]
  simp only [evalOp, hv, XT]
  rfl
theorem iY {root : Option (Option Nat)} {dst k : Option Nat} {take : Bool} (hd : ∀ d, dst = some d → F.D d) (hr : F.Rooted root) (hh : take = true → F.Holds root) (pv : LV) :
  Ai (XT root dst k take pv) F := by
 unfold XT
 split
 ·split
  ·exact C7 hd _
  ·exact Ai.fail
 ·split
  ·exact C7 hd _
  ·exact Ai.fail
 ·refine Ai.bind (iW hr _ _ _ _ _) fun cs => ?_
  split
  ·exact Ai.bind (SG (hh rfl) _ _ _ _ _) fun _ => C7 hd _
  ·split
   ·exact C7 hd _
   ·exact Ai.fail
 ·exact Ai.fail
theorem lS (C : AM) (g : Nat) {k : Option Nat} {p : Opd} {take : Bool} {dst : Option Nat} {guard : Option (Nat × Bool)} {root : Option (Option Nat)} :
  C4 (Ea LP C g { dst, op := .load k p take, guard, root }) (AD.foot { dst, op := .load k p take, guard, root }) := by
 refine A7 (fun s => na LP C g s) (Ai.bind (Fh LP (gA { dst, op := .load k p take, guard, root } (by simp [zn.opds]))) fun pv => iY (fun d hd => ?_) ?_ (fun ht => ?_) pv)
 ·subst hd
  cases take <;> cases root <;> first | exact .inl rfl | exact .inr (.inl (by simp [AD.foot]))
 ·cases take <;> cases root <;> first
   | exact .inl rfl
   | exact .inr rfl
   | skip
  ·rename_i q; cases q with
   | none => trivial
   | some q => exact ⟨.inr (by simp [AD.foot, own]), fun e => .inl (by simp [AD.foot, G6, e])⟩
  ·rename_i q; cases q with
   | none => trivial
   | some q => exact ⟨.inl (.inr (by simp [AD.foot, own])), fun e => .inr (by simp [AD.foot, G6, e])⟩
 ·subst ht
  cases root with
  | none => exact rfl
  | some q => cases q with
   | none => trivial
   | some q => simp [GL.Holds, AD.foot, own, G6]
def ez (root : Option (Option Nat)) (n : Nat) (x : Opd) (pv : LV) : St → Option (Unit × St) := match pv with
 | .ptr j t g off => B5 (LS LP x) fun xv => match xv.known with
  | some xs => L1 root j t g off fun cs => if xs.length = n ∧ off + n ≤ cs.length ∧ xs.all LV.cellOk then some ((), setCells cs off xs) else none
  | none => fun _ => none
 | _ => fun _ => none
theorem Py (x : Opd) (s : St) : (s.take LP x).2.low = s.low := by
 unfold St.take
 cases x with
 | tmp t => simp only; split <;> rfl
 | _ => rfl
theorem kS (C : AM) (g : Nat) {n : Nat} {p x : Opd} {dst : Option Nat} {guard : Option (Nat × Bool)} {root : Option (Option Nat)} (s : St) :
  Ea LP C g { dst, op := .store n p x, guard, root } s = (B5 (rdV LP p) (ez LP root n x) s).map (·.2) := by
 obtain ⟨pv, hv⟩ : ∃ pv, s.val LP p = pv := ⟨_, rfl⟩
 rw [Ib LP rfl hv]
 simp only [B5, rdV, hv]
 cases pv with
 | ptr j t g' off =>
  simp only [ez, B5, LS]
  by_cases hr : An s.low.length root (some (.ptr j t g' off)) = true
  ·rw [if_pos hr]
   simp only [evalOp, hv]
   cases hk : (s.take LP x).1.known with
   | none => cases (s.take LP x).2.cells j t g' <;> rfl
   | some xs =>
    simp only [L1, Py, hr, if_true]
    cases (s.take LP x).2.cells j t g' with
    | none => rfl
    | some cs => simp only; split <;> rfl
  ·rw [if_neg hr]
   cases hk : (s.take LP x).1.known with
   | none => rfl
   | some xs => simp only [L1, Py, hr]; rfl
 | _ =>
  simp only [ez, evalOp, hv]
  split <;> rfl
theorem gf (C : AM) (g : Nat) {n : Nat} {p x : Opd} {dst : Option Nat} {guard : Option (Nat × Bool)} {root : Option (Option Nat)} :
  C4 (Ea LP C g { dst, op := .store n p x, guard, root }) (AD.foot { dst, op := .store n p x, guard, root }) := by
 refine A7 (fun s => kS LP C g s) (Ai.bind (Fh LP (gA { dst, op := .store n p x, guard, root } (by simp [zn.opds]))) fun pv => ?_)
 unfold ez
 split
 ·refine Ai.bind (Jy LP fun t ht => ?_) fun xv => ?_
  ·subst ht
   cases root <;> first | exact .inl rfl | exact .inr (.inl (by simp [AD.foot, Opd.tmp?]))
  ·split
   ·refine SG ?_ _ _ _ _ _
    cases root with
    | none => exact rfl
    | some q => cases q with
     | none => trivial
     | some q => simp [GL.Holds, AD.foot, own, G6]
   ·exact Ai.fail
 ·exact Ai.fail
def U3 (root : Option (Option Nat)) (n : Nat) (v : Opd) (mv kv : LV) : St → Option (Unit × St) := match mv, kv.key n with
 | .mref j t g, some key => B5 (LS LP v) fun xv => LN root j t g n fun es => match AN key es 0 with
  | some (i, _) => some ((), es.set i (key, xv))
  | none => some ((), es ++ [(key, xv)])
 | _, _ => fun _ => none
theorem ck (C : AM) (g : Nat) {n : Nat} {m k v : Opd} {dst : Option Nat} {guard : Option (Nat × Bool)} {root : Option (Option Nat)} (s : St) :
  Ea LP C g { dst, op := .mapset n m k v, guard, root } s = (B5 (rdV LP m) (fun mv => B5 (rdV LP k) (U3 LP root n v mv)) s).map (·.2) := by
 obtain ⟨pv, hv⟩ : ∃ pv, s.val LP m = pv := ⟨_, rfl⟩
 rw [Ib LP rfl hv]
 simp only [B5, rdV, hv]
 cases pv with
 | mref j t g' =>
  simp only [U3, evalOp, hv]
  cases (s.val LP k).key n with
  | none => split <;> rfl
  | some key =>
   simp only [B5, LS, LN, Py]
   split
   ·cases (s.take LP v).2.entries j t g' n with
    | none => rfl
    | some es =>
     simp only
     cases AN key es 0 <;> rfl
   ·rfl
 | _ =>
  simp only [U3, evalOp, hv]
  split <;> rfl
theorem cu (C : AM) (g : Nat) {n : Nat} {m k v : Opd} {dst : Option Nat} {guard : Option (Nat × Bool)} {root : Option (Option Nat)} :
  C4 (Ea LP C g { dst, op := .mapset n m k v, guard, root }) (AD.foot { dst, op := .mapset n m k v, guard, root }) := by
 refine A7 (fun s => ck LP C g s) (Ai.bind (Fh LP (gA { dst, op := .mapset n m k v, guard, root } (by simp [zn.opds]))) fun mv =>
  Ai.bind (Fh LP (gA { dst, op := .mapset n m k v, guard, root } (by simp [zn.opds]))) fun kv => ?_)
 unfold U3
 split
 ·refine Ai.bind (Jy LP fun t ht => ?_) fun xv => ?_
  ·subst ht
   cases root <;> first | exact .inl rfl | exact .inr (.inl (by simp [AD.foot, Opd.tmp?]))
  ·refine Lq ?_ _ _ _ _ _
   cases root with
   | none => exact rfl
   | some q => cases q with
    | none => trivial
    | some q => simp [GL.Holds, AD.foot, own, G6]
 ·exact Ai.fail
def Va (root : Option (Option Nat)) (n : Nat) (v : Opd) (mv iv : LV) : St → Option (Unit × St) := match mv, E1 iv with
 | .mref j t g, some i => B5 (LS LP v) fun xv => LN root j t g n fun es => match es[i]? with
  | some (key, _) => some ((), es.set i (key, xv))
  | none => none
 | _, _ => fun _ => none
theorem cp (C : AM) (g : Nat) {n : Nat} {m k v : Opd} {dst : Option Nat} {guard : Option (Nat × Bool)} {root : Option (Option Nat)} (s : St) :
  Ea LP C g { dst, op := .mstore n m k v, guard, root } s = (B5 (rdV LP m) (fun mv => B5 (rdV LP k) (Va LP root n v mv)) s).map (·.2) := by
 obtain ⟨pv, hv⟩ : ∃ pv, s.val LP m = pv := ⟨_, rfl⟩
 rw [Ib LP rfl hv]
 simp only [B5, rdV, hv]
 cases pv with
 | mref j t g' =>
  simp only [Va, evalOp, hv]
  cases E1 (s.val LP k) with
  | none => split <;> rfl
  | some i =>
   simp only [B5, LS, LN, Py]
   split
   ·cases (s.take LP v).2.entries j t g' n with
    | none => rfl
    | some es =>
     simp only
     cases es[i]? <;> rfl
   ·rfl
 | _ =>
  simp only [Va, evalOp, hv]
  split <;> rfl
theorem dp (C : AM) (g : Nat) {n : Nat} {m k v : Opd} {dst : Option Nat} {guard : Option (Nat × Bool)} {root : Option (Option Nat)} :
  C4 (Ea LP C g { dst, op := .mstore n m k v, guard, root }) (AD.foot { dst, op := .mstore n m k v, guard, root }) := by
 refine A7 (fun s => cp LP C g s) (Ai.bind (Fh LP (gA { dst, op := .mstore n m k v, guard, root } (by simp [zn.opds]))) fun mv =>
  Ai.bind (Fh LP (gA { dst, op := .mstore n m k v, guard, root } (by simp [zn.opds]))) fun kv => ?_)
 unfold Va
 split
 ·refine Ai.bind (Jy LP fun t ht => ?_) fun xv => ?_
  ·subst ht
   cases root <;> first | exact .inl rfl | exact .inr (.inl (by simp [AD.foot, Opd.tmp?]))
  ·refine Lq ?_ _ _ _ _ _
   cases root with
   | none => exact rfl
   | some q => cases q with
    | none => trivial
    | some q => simp [GL.Holds, AD.foot, own, G6]
 ·exact Ai.fail
def Vp (root : Option (Option Nat)) (dst : Option Nat) (n : Nat) (z : DV) (mv kv : LV) : St → Option (Unit × St) := match mv, kv.key n with
 | .mref j t g, some key => B5 (LN root j t g n fun es => match AN key es 0 with
  | some (i, v) => some (LV.tup [v, .d (.int i)], es.set i (key, v.cool))
  | none => some (.tup [.d z, .d (.int es.length)], es ++ [(key, .d z)])) fun r => R7 dst r
 | _, _ => fun _ => none
theorem fp (C : AM) (g : Nat) {n : Nat} {m k : Opd} {z : DV} {dst : Option Nat} {guard : Option (Nat × Bool)} {root : Option (Option Nat)} (s : St) :
  Ea LP C g { dst, op := .mentry n m k z, guard, root } s = (B5 (rdV LP m) (fun mv => B5 (rdV LP k) (Vp root dst n z mv)) s).map (·.2) := by
 obtain ⟨pv, hv⟩ : ∃ pv, s.val LP m = pv := ⟨_, rfl⟩
 rw [Ib LP rfl hv]
 simp only [B5, rdV, hv]
 cases pv with
 | mref j t g' =>
  simp only [Vp, evalOp, hv]
  cases (s.val LP k).key n with
  | none => split <;> rfl
  | some key =>
   simp only [B5, LN]
   split
   ·cases s.entries j t g' n with
    | none => rfl
    | some es =>
     simp only
     cases AN key es 0 with
     | none => exact BS _ _ _
     | some r => exact BS _ _ _
   ·rfl
 | _ =>
  simp only [Vp, evalOp, hv]
  split <;> rfl
theorem fA (C : AM) (g : Nat) {n : Nat} {m k : Opd} {z : DV} {dst : Option Nat} {guard : Option (Nat × Bool)} {root : Option (Option Nat)} :
  C4 (Ea LP C g { dst, op := .mentry n m k z, guard, root }) (AD.foot { dst, op := .mentry n m k z, guard, root }) := by
 refine A7 (fun s => fp LP C g s) (Ai.bind (Fh LP (gA { dst, op := .mentry n m k z, guard, root } (by simp [zn.opds]))) fun mv =>
  Ai.bind (Fh LP (gA { dst, op := .mentry n m k z, guard, root } (by simp [zn.opds]))) fun kv => ?_)
 unfold Vp
 split
 ·refine Ai.bind (Lq ?_ _ _ _ _ _) fun r => C7 (fun d hd => ?_) r
  ·cases root with
   | none => exact rfl
   | some q => cases q with
    | none => trivial
    | some q => simp [GL.Holds, AD.foot, own, G6]
  ·subst hd
   cases root <;> first | exact .inl rfl | exact .inr (.inl (by simp [AD.foot]))
 ·exact Ai.fail
def az (root : Option (Option Nat)) (n : Nat) (mv kv : LV) : St → Option (Option LV × St) := match kv.key n with
 | none => fun _ => none
 | some key => match mv with
  | .mref j t g => uX root j t g n fun es => some ((AN key es 0).map fun p => p.2.copy)
  | .d (.fmap n' es) => if n' = n then fun s => some ((AN key es 0).map fun p => .d p.2, s) else fun _ => none
  | .d .nilmap => fun s => some (none, s)
  | _ => fun _ => none
theorem dD (C : AM) (g : Nat) {n : Nat} {m k : Opd} {ok : Bool} {z : DV} {dst : Option Nat} {guard : Option (Nat × Bool)} {root : Option (Option Nat)} (s : St) :
  Ea LP C g { dst, op := .lookup n m k ok z, guard, root } s = (B5 (rdV LP m) (fun mv => B5 (rdV LP k) fun kv => B5 (az root n mv kv) fun r =>
   R7 dst (if ok then LV.norm (.tup [r.getD (.d z), .d (.bool r.isSome)]) else r.getD (.d z))) s).map (·.2) := by
 obtain ⟨pv, hv⟩ : ∃ pv, s.val LP m = pv := ⟨_, rfl⟩
 rw [Ib LP rfl hv]
 simp only [B5, rdV, hv, az]
 have fin : ∀ r : Option LV, (if ok = true then s.put dst (LV.norm (.tup [r.getD (.d z), .d (.bool r.isSome)])) else s.put dst (r.getD (.d z))) = (R7 dst (if ok = true then LV.norm (.tup [r.getD (.d z), .d (.bool r.isSome)]) else r.getD (.d z)) s).map (·.2) := by
  intro r; cases ok <;> exact BS _ _ _
 simp only [evalOp]
 cases (s.val LP k).key n with
 | none => split <;> rfl
 | some key =>
  simp only [hv]
  cases pv with
  | mref j t g' =>
   simp only [uX]
   split
   ·cases s.entries j t g' n with
    | none => rfl
    | some es => exact fin _
   ·rfl
  | d y =>
   rw [if_pos (Re (by simp) (by simp))]
   cases y with
   | fmap n' es =>
    simp only
    split
    ·exact fin _
    ·rfl
   | nilmap => exact fin none
   | _ => rfl
  | _ =>
   simp only
   split <;> rfl
theorem eY (C : AM) (g : Nat) {n : Nat} {m k : Opd} {ok : Bool} {z : DV} {dst : Option Nat} {guard : Option (Nat × Bool)} {root : Option (Option Nat)} :
  C4 (Ea LP C g { dst, op := .lookup n m k ok z, guard, root }) (AD.foot { dst, op := .lookup n m k ok z, guard, root }) := by
 refine A7 (fun s => dD LP C g s) (Ai.bind (Fh LP (gA { dst, op := .lookup n m k ok z, guard, root } (by simp [zn.opds]))) fun mv =>
  Ai.bind (Fh LP (gA { dst, op := .lookup n m k ok z, guard, root } (by simp [zn.opds]))) fun kv => Ai.bind ?_ fun r => C7 (fun d hd => ?_) _)
 ·unfold az
  split
  ·exact Ai.fail
  ·split
   ·refine ik ?_ _ _ _ _ _
    cases root with
    | none => exact .inl rfl
    | some q => cases q with
     | none => trivial
     | some q => exact ⟨.inr (by simp [AD.foot, own]), fun e => .inl (by simp [AD.foot, G6, e])⟩
   ·split
    ·exact Ai.ret _
    ·exact Ai.fail
   ·exact Ai.ret _
   ·exact Ai.fail
 ·subst hd
  cases root <;> exact .inr (.inl (by simp [AD.foot]))
end
end Go.Lf
namespace Go.Lf
open Go
section
variable (LP : Aw) {F : GL}
def ZF (vis : List Nat) (K : List Fr → Nat → Option (LV × List Fr × Nat)) (s : St) : Option (LV × St) :=
 match K (s.low ++ [{ env := s.env.keep vis, loop := none }]) s.ctr with
 | some (v, low', c') => match low'.getLast? with
  | some fr => if low'.length = s.low.length + 1 then some (v, { env := Env.merge vis s.env fr.env, low := low'.dropLast, ctr := c' }) else none
  | none => none
 | none => none
theorem db {vis : List Nat} (K : List Fr → Nat → Option (LV × List Fr × Nat)) (hv : ∀ t, t ∈ vis → t ∈ F.wb) (hl : F.lw = true) : Ai (ZF vis K) F where
 turns s a s' h := by
  unfold ZF at h
  split at h
  ·rename_i v low' c' hK
   split at h
   ·rename_i fr hfr
    split at h
    ·rename_i hlen
     simp only [Option.some.injEq, Prod.mk.injEq] at h
     obtain ⟨_, rfl⟩ := h
     have out : ∀ t, t ∉ F.wb → (Env.merge vis s.env fr.env).get t = s.env.get t := fun t ht => by
      rw [KB, if_neg (by simp only [List.contains_eq_mem, decide_eq_true_eq]; exact fun h => ht (hv t h))]
     exact ⟨by simp [hlen], fun t ht => out t fun h => ht (.inl (.inr (.inr h))), fun _ t ht _ => .inl (out t ht), fun t ht => by rw [out t fun h => ht (.inr (.inr h))], fun _ h => by rw [hl] at h; simp at h, fun _ h => by rw [hl] at h; simp at h⟩
    ·simp at h
   ·simp at h
  ·simp at h
 same s a s' r h hag := by
  have hlow := hag.low (.inr (.inl hl))
  have hctr := hag.ctr (.inl hl)
  have hkeep : s.env.keep vis = r.env.keep vis := Xi fun t ht => hag.here t (.inl (.inl (.inr (.inr (hv t ht)))))
  unfold ZF at h
  split at h
  ·rename_i v low' c' hK
   split at h
   ·rename_i fr hfr
    split at h
    ·rename_i hlen
     simp only [Option.some.injEq, Prod.mk.injEq] at h
     obtain ⟨rfl, rfl⟩ := h
     refine ⟨{ env := Env.merge vis r.env fr.env, low := low'.dropLast, ctr := c' }, ?_, fun t ht => ?_, fun _ => rfl, fun _ => rfl⟩
     ·unfold ZF
      rw [← hlow, ← hctr, ← hkeep, hK]
      simp only [hfr, hlen, if_true]
     ·simp only [KB]
      rw [hag.same.env t ht]
    ·simp at h
   ·simp at h
  ·simp at h
def vM (C : AM) (fv : LV) (avs : List LV) (low : List Fr) (ctr : Nat) : Option (LV × List Fr × Nat) := match fv with
 | .yield j g => (C.round j g avs low ctr).map fun r => (.d (.bool r.1), r.2)
 | fv => match target fv with
  | some (f, a, b) => C.call f (a ++ avs ++ b) low ctr
  | none => none
theorem qa (C : AM) (g : Nat) {f : Opd} {args : List Opd} {vis : List Nat} {dst : Option Nat} {guard : Option (Nat × Bool)} {root : Option (Option Nat)} (s : St) :
  Ea LP C g { dst, op := .call f args (some vis), guard, root } s =
   (B5 (fun s => some (s.val LP f, s)) (fun fv => B5 (fun s => some (args.map (s.val LP), s)) fun avs => B5 (ZF vis (vM C fv avs)) fun v => R7 dst v) s).map (·.2) := by
 rw [Au LP rfl]
 simp only [B5, ZF, vM, evalOp]
 cases s.val LP f with
 | yield j g' =>
  simp only
  cases C.round j g' (args.map (s.val LP)) (s.low ++ [{ env := s.env.keep vis, loop := none }]) s.ctr with
  | none => rfl
  | some r =>
   obtain ⟨b, low', c'⟩ := r
   simp only [Option.map_some]
   cases low'.getLast? with
   | none => rfl
   | some fr =>
    simp only
    split
    ·exact BS _ _ _
    ·rfl
 | _ =>
  simp only
  generalize target _ = tt
  cases tt with
  | none => rfl
  | some fab =>
   obtain ⟨f', a, b⟩ := fab
   simp only
   cases C.call f' (a ++ args.map (s.val LP) ++ b) (s.low ++ [{ env := s.env.keep vis, loop := none }]) s.ctr with
   | none => rfl
   | some r =>
    obtain ⟨v, low', c'⟩ := r
    simp only
    cases low'.getLast? with
    | none => rfl
    | some fr =>
     simp only
     split
     ·exact BS _ _ _
     ·rfl
theorem kj (C : AM) (g : Nat) {f : Opd} {args : List Opd} {vis : List Nat} {dst : Option Nat} {guard : Option (Nat × Bool)} {root : Option (Option Nat)} :
  C4 (Ea LP C g { dst, op := .call f args (some vis), guard, root }) (AD.foot { dst, op := .call f args (some vis), guard, root }) := by
 refine A7 (fun s => qa LP C g s) (Ai.bind (EH (f := fun s => some (s.val LP f)) fun s r h => ?_) fun fv => Ai.bind (EH (f := fun s => some (args.map (s.val LP))) fun s r h => ?_) fun avs =>
  Ai.bind (db _ (fun t ht => ht) rfl) fun v => C7 (fun d hd => ?_) v)
 ·rw [h.val LP (gA { dst, op := .call f args (some vis), guard, root } (by simp [zn.opds]))]
 ·rw [HL fun x hx => h.val LP (gA { dst, op := .call f args (some vis), guard, root } (by simp [zn.opds, hx]))]
 ·subst hd; exact .inr (.inl (by simp [AD.foot]))
theorem Vn (C : AM) (g : Nat) (o : AD) : C4 (Ea LP C g o) o.foot := by
 by_cases hv : o.op.isValue = true
 ·exact ib LP C g hv
 ·obtain ⟨dst, op, guard, root⟩ := o
  cases op <;> try (exact absurd rfl hv)
  case move x b => cases b <;> first | exact absurd rfl hv | exact lK LP C g
  case alloc => exact iS LP C g
  case box => exact nG LP C g
  case mkmap => exact gK LP C g
  case mapset => exact cu LP C g
  case load => exact lS LP C g
  case store => exact gf LP C g
  case call f as vis => cases vis <;> first | exact absurd rfl hv | exact kj LP C g
  case append => exact eg LP C g
  case extract => exact bU LP C g
  case lookup => exact eY LP C g
  case mentry => exact fA LP C g
  case mstore => exact dp LP C g
  case bad => exact A7 (h := fun _ => none) (fun s => by rw [Au LP rfl]; rfl) Ai.fail
theorem jN {o : AD} {d : Nat} (h : o.dst = some d) : o.foot.D d := by
 by_cases hv : o.op.isValue = true
 ·exact .inr (.inl (by rw [Yj hv]; exact nR h))
 ·obtain ⟨dst, op, guard, root⟩ := o
  simp only at h
  subst h
  cases op
  case move x b => cases b <;> first | exact absurd rfl hv | exact .inr (.inl (by simp [AD.foot]))
  case append => exact .inr (.inl (by simp [AD.foot]))
  case alloc => exact .inr (.inr (by simp [AD.foot]))
  case box => exact .inr (.inr (by simp [AD.foot]))
  case mkmap => exact .inr (.inr (by simp [AD.foot]))
  case extract i x b => cases b <;> exact .inr (.inl (by simp [AD.foot]))
  case mapset => cases root <;> first | exact .inl rfl | exact .inr (.inl (by simp [AD.foot]))
  case load k p b => cases b <;> cases root <;> first | exact .inl rfl | exact .inr (.inl (by simp [AD.foot]))
  case store => cases root <;> first | exact .inl rfl | exact .inr (.inl (by simp [AD.foot]))
  case mentry => cases root <;> first | exact .inl rfl | exact .inr (.inl (by simp [AD.foot]))
  case mstore => cases root <;> first | exact .inl rfl | exact .inr (.inl (by simp [AD.foot]))
  case lookup => cases root <;> exact .inr (.inl (by simp [AD.foot]))
  case call f as vis => cases vis <;> first | exact absurd rfl hv | exact .inr (.inl (by simp [AD.foot]))
  case bad => exact .inr (.inl (by simp [AD.foot]))
  all_goals exact absurd rfl hv
theorem Qk (C : AM) (g : Nat) (o : AD) : C4 (Ag LP C g o) o.foot := by
 cases hg : o.guard with
 | none =>
  have : Ag LP C g o = Ea LP C g o := by
   funext s; unfold Ag; rw [hg]; rfl
  rw [this]; exact Vn LP C g o
 | some tw =>
  obtain ⟨t, want⟩ := tw
  have ht : t ∈ o.foot.rd := oD o (List.mem_append_right _ (by rw [hg]; simp))
  have hR := Vn LP C g o
  have hR' : Ai (fun s => (Ea LP C g o s).map fun s' => ((), s')) o.foot := ⟨fun s a s' h => by
    simp only [Option.map_eq_some_iff, Prod.mk.injEq, true_and, exists_eq_right] at h
    exact hR.turns s s' h, fun s a s' r h hag => by
    simp only [Option.map_eq_some_iff, Prod.mk.injEq, true_and, exists_eq_right] at h
    obtain ⟨r', hr, hs⟩ := hR.same s s' r h hag
    exact ⟨r', by simp [hr], hs⟩⟩
  refine A7 (h := B5 (fun s => some (s.slot t, s)) fun x => match x with
   | .d (.bool b) => if b = want then (fun s => (Ea LP C g o s).map fun s' => ((), s')) else R7 o.dst (.d .undef)
   | .d .undef => R7 o.dst (.d .undef)
   | _ => fun _ => none) (fun s => ?_) (Ai.bind (EH (f := fun s => some (s.slot t)) fun s r h => by rw [h.slot ht]) fun x => ?_)
  ·unfold Ag
   rw [hg]
   simp only [B5]
   cases s.slot t with
   | d y =>
    cases y with
    | bool b =>
     simp only
     split
     ·show Ea LP C g o s = ((Ea LP C g o s).map fun s' => ((), s')).map (·.2)
      cases Ea LP C g o s <;> rfl
     ·exact BS _ _ _
    | undef => exact BS _ _ _
    | _ => rfl
   | _ => rfl
  ·split
   ·split
    ·exact hR'
    ·exact C7 (fun d hd => jN hd) _
   ·exact C7 (fun d hd => jN hd) _
   ·exact Ai.fail
def DN (C : AM) (c : Nat) (ops : List AD) : List Nat → St → Option St
 | [], s => some s
 | i :: r, s => match Ag LP C (c + i) (ops.getD i default) s with
  | some s' => DN C c ops r s'
  | none => none
theorem QV (C : AM) (c : Nat) (ops : List AD) : ∀ (l : List Nat) {s r s' : St}, ZP s r → DN LP C c ops l s = some s' → ∃ r', DN LP C c ops l r = some r' ∧ ZP s' r'
 | [], s, r, s', he, h => by
  simp only [DN, Option.some.injEq] at h
  subst h
  exact ⟨r, rfl, he⟩
 | i :: l, s, r, s', he, h => by
  simp only [DN] at h
  split at h
  ·rename_i s1 h1
   obtain ⟨r1, hr1, he1⟩ := (Qk LP C (c + i) (ops.getD i default)).congr he h1
   obtain ⟨r', hr', he'⟩ := QV C c ops l he1 h
   exact ⟨r', by simp only [DN, hr1]; exact hr', he'⟩
  ·simp at h
theorem PP (C : AM) (c : Nat) (ops : List AD) {k : Nat} : ∀ (pre post : List Nat) {s s' : St}, (∀ i, i ∈ pre → (ops.getD i default).foot.apart (ops.getD k default).foot = true) →
  DN LP C c ops (pre ++ k :: post) s = some s' → ∃ r', DN LP C c ops (k :: (pre ++ post)) s = some r' ∧ ZP s' r'
 | [], post, s, s', _, h => ⟨s', h, .refl _⟩
 | i :: pre, post, s, s', ha, h => by
  simp only [List.cons_append, DN] at h
  split at h
  ·rename_i s1 h1
   obtain ⟨r1, hr1, he1⟩ := PP C c ops pre post (fun j hj => ha j (by simp [hj])) h
   simp only [DN] at hr1
   split at hr1
   ·rename_i s2 h2
    obtain ⟨a, b, ha1, hb1, hab⟩ := lx (Qk LP C (c + i) (ops.getD i default)) (Qk LP C (c + k) (ops.getD k default)) (ha i (by simp)) h1 h2
    obtain ⟨r', hr', he'⟩ := QV LP C c ops (pre ++ post) hab hr1
    refine ⟨r', ?_, he1.trans he'⟩
    simp only [DN, ha1, List.cons_append, hb1]
    exact hr'
   ·simp at hr1
  ·simp at h
theorem O8 (C : AM) (c : Nat) (ops : List AD) : ∀ (σ l : List Nat) {s s' : St}, σ.Perm l →
  (∀ i k, i ∈ l → k ∈ l → i ≠ k → (∃ a b, l = a ++ i :: b ∧ k ∈ b) → (∃ a b, σ = a ++ k :: b ∧ i ∈ b) → (ops.getD i default).foot.apart (ops.getD k default).foot = true) → l.Nodup →
  DN LP C c ops l s = some s' → ∃ r', DN LP C c ops σ s = some r' ∧ ZP s' r'
 | [], l, s, s', hp, _, _, h => by
  have : l = [] := hp.symm.eq_nil
  subst this
  exact ⟨s', h, .refl _⟩
 | k :: σ, l, s, s', hp, ha, hn, h => by
  have hk : k ∈ l := hp.subset (by simp)
  obtain ⟨pre, post, rfl⟩ := List.append_of_mem hk
  have hperm : σ.Perm (pre ++ post) := by
   have : (k :: σ).Perm (k :: (pre ++ post)) := hp.trans List.perm_middle
   exact this.cons_inv
  have hn' : (k :: (pre ++ post)).Nodup := (List.perm_middle.nodup_iff).1 hn
  obtain ⟨hknot, hn2⟩ := List.nodup_cons.1 hn'
  obtain ⟨r1, hr1, he1⟩ := PP LP C c ops pre post (fun i hi => by
   have hne : i ≠ k := fun e => by subst e; exact hknot (by simp [hi])
   obtain ⟨a, b, rfl⟩ := List.append_of_mem hi
   exact ha i k (by simp) (by simp) hne ⟨a, b ++ k :: post, by simp, by simp⟩ ⟨[], σ, rfl, hperm.symm.subset (by simp)⟩) h
  simp only [DN] at hr1
  split at hr1
  ·rename_i s1 h1
   obtain ⟨r', hr', he'⟩ := O8 C c ops σ (pre ++ post) hperm (fun i j hi hj hne hl hs => by
    have hi' : i ∈ pre ++ k :: post := by simp only [List.mem_append, List.mem_cons] at hi ⊢; rcases hi with h | h; exact .inl h; exact .inr (.inr h)
    have hj' : j ∈ pre ++ k :: post := by simp only [List.mem_append, List.mem_cons] at hj ⊢; rcases hj with h | h; exact .inl h; exact .inr (.inr h)
    refine ha i j hi' hj' hne ?_ ?_
    ·obtain ⟨a, b, hab, hjb⟩ := hl
     rcases List.append_eq_append_iff.1 hab with ⟨c, rfl, hc⟩ | ⟨c, rfl, hc⟩
     ·exact ⟨pre ++ k :: c, b, by simp [hc], hjb⟩
     ·cases c with
      | nil =>
       simp only [List.append_nil, List.nil_append] at hc ⊢
       exact ⟨a ++ [k], b, by simp [hc], hjb⟩
      | cons x c =>
       simp only [List.cons_append, List.cons.injEq] at hc
       obtain ⟨rfl, rfl⟩ := hc
       refine ⟨a, c ++ k :: post, by simp, ?_⟩
       simp only [List.mem_append, List.mem_cons] at hjb ⊢
       rcases hjb with h | h
       ·exact .inl h
       ·exact .inr (.inr h)
    ·obtain ⟨a, b, rfl, hib⟩ := hs
     exact ⟨k :: a, b, rfl, hib⟩) hn2 hr1
   exact ⟨r', by simp only [DN, h1]; exact hr', he1.trans he'⟩
  ·simp at hr1
end
end Go.Lf
namespace Go.Lf
open Go
def Vv (acc : List Nat) (o : Oper) : Nat := o.after.toList.foldl (fun s e => if Region.binds .any e then s ||| 2 ^ e.on ||| acc.getD e.on 0 else s) 0
def Vw : List Oper → List Nat → List Nat
 | [], acc => acc
 | o :: r, acc => Vw r (acc ++ [Vv acc o])
def Wm (ops : Array Oper) : Bool := (List.range ops.size).all fun i => (ops.getD i default).after.toList.all fun e => !Region.binds .any e || decide (e.on < i)
def Yo (los : List AD) (ops : Array Oper) : Bool :=
 Wm ops && ((List.range ops.size).all fun j => (List.range j).all fun i => ((Vw ops.toList []).getD j 0).testBit i || (los.getD i default).foot.apart (los.getD j default).foot)
theorem PH (acc : List Nat) (i : Nat) : ∀ (es : List Edge) (s : Nat), (es.foldl (fun s e => if Region.binds .any e then s ||| 2 ^ e.on ||| acc.getD e.on 0 else s) s).testBit i = true →
  s.testBit i = true ∨ ∃ e, e ∈ es ∧ Region.binds .any e = true ∧ (i = e.on ∨ (acc.getD e.on 0).testBit i = true)
 | [], s, h => .inl h
 | e :: es, s, h => by
  simp only [List.foldl_cons] at h
  rcases PH acc i es _ h with h1 | ⟨e', h1, h2, h3⟩
  ·split at h1
   ·rename_i hb
    rw [Nat.testBit_or, Nat.testBit_or, Bool.or_eq_true, Bool.or_eq_true] at h1
    rcases h1 with (h1 | h1) | h1
    ·exact .inl h1
    ·refine .inr ⟨e, by simp, hb, .inl ?_⟩
     rw [Nat.testBit_two_pow] at h1
     exact (by simpa using h1 : e.on = i).symm
    ·exact .inr ⟨e, by simp, hb, .inr h1⟩
   ·exact .inl h1
  ·exact .inr ⟨e', by simp [h1], h2, h3⟩
def oL (all : List Oper) (acc : List Nat) : Prop := ∀ (k : Nat) (i : Nat), k < acc.length → (acc.getD k 0).testBit i = true →
 ∃ o e, all[k]? = some o ∧ e ∈ o.after.toList ∧ Region.binds .any e = true ∧ (i = e.on ∨ (e.on < k ∧ (acc.getD e.on 0).testBit i = true))
theorem WN (all : List Oper) : ∀ (r pre : List Oper) (acc : List Nat), all = pre ++ r → acc.length = pre.length → oL all acc → oL all (Vw r acc) ∧ (Vw r acc).length = all.length
 | [], pre, acc, ha, hl, h => by subst ha; exact ⟨h, by simpa [Vw] using hl⟩
 | o :: r, pre, acc, ha, hl, h => by
  rw [Vw]
  refine WN all r (pre ++ [o]) _ (by rw [ha]; simp) (by simp [hl]) fun k i hk ht => ?_
  simp only [List.length_append, List.length_singleton] at hk
  have hget : ∀ n, n < acc.length → (acc ++ [Vv acc o]).getD n 0 = acc.getD n 0 := fun n hn => by
   simp [List.getD_eq_getElem?_getD, List.getElem?_append_left hn]
  by_cases hka : k < acc.length
  ·rw [hget k hka] at ht
   obtain ⟨o', e, h1, h2, h3, h4⟩ := h k i hka ht
   refine ⟨o', e, h1, h2, h3, h4.imp id fun h => ⟨h.1, ?_⟩⟩
   rw [hget _ (by omega)]; exact h.2
  ·obtain rfl : k = acc.length := by omega
   have hg : (acc ++ [Vv acc o]).getD acc.length 0 = Vv acc o := by simp [List.getD_eq_getElem?_getD]
   rw [hg] at ht
   unfold Vv at ht
   rcases PH acc i _ _ ht with h1 | ⟨e, h1, h2, h3⟩
   ·simp at h1
   ·refine ⟨o, e, by rw [ha, hl]; simp, h1, h2, h3.imp id fun h3 => ?_⟩
    have hlt : e.on < acc.length := by
     rcases Nat.lt_or_ge e.on acc.length with h | h
     ·exact h
     ·simp [List.getD_eq_getElem?_getD, List.getElem?_eq_none h] at h3
    exact ⟨hlt, by rw [hget _ hlt]; exact h3⟩
section
variable {ops : Array Oper}
theorem fV (h : Wm ops = true) {i : Nat} {o : Oper} (ho : ops[i]? = some o) {e : Edge} (he : e ∈ o.after) (hb : Region.binds .any e = true) : e.on < i := by
 unfold Wm at h
 rw [List.all_eq_true] at h
 have hi : i < ops.size := (Array.getElem?_eq_some_iff.1 ho).1
 have := h i (List.mem_range.2 hi)
 rw [List.all_eq_true] at this
 have hd : ops.getD i default = o := by rw [Array.getD_eq_getD_getElem?, ho]; rfl
 rw [hd] at this
 have := this e (by simpa using he)
 simpa [hb] using this
def Ce (n : Nat) (listed : Array Bool) : List Nat := (List.range n).filter fun i => !listed.getD i true
theorem GE {n i : Nat} {listed : Array Bool} : i ∈ Ce n listed ↔ i < n ∧ listed.getD i true = false := by
 simp [Ce, List.mem_filter]
theorem RA (he : Wm ops = true) {listed : Array Bool} (hs : listed.size = ops.size) (hne : Ce ops.size listed ≠ []) : Region.ready .any ops listed ≠ [] := by
 obtain ⟨i, r, hir⟩ : ∃ i r, Ce ops.size listed = i :: r := by
  cases h : Ce ops.size listed with
  | nil => exact absurd h hne
  | cons i r => exact ⟨i, r, rfl⟩
 have hi : i ∈ Ce ops.size listed := by rw [hir]; simp
 obtain ⟨hin, hil⟩ := GE.1 hi
 have hmin : ∀ j, j < i → listed.getD j false = true := by
  intro j hj
  have hjn : j < listed.size := by omega
  cases hl : listed.getD j true with
  | false =>
   have hjm : j ∈ Ce ops.size listed := GE.2 ⟨by omega, hl⟩
   have hsorted : (Ce ops.size listed).Pairwise (· < ·) := List.Pairwise.filter _ List.pairwise_lt_range
   rw [hir] at hjm hsorted
   rcases List.mem_cons.1 hjm with h | h
   ·omega
   ·have := (List.pairwise_cons.1 hsorted).1 j h
    omega
  | true => simp [Array.getD, hjn] at hl ⊢; exact hl
 have : i ∈ Region.ready .any ops listed := by
  rw [mem_ready]
  have ho : ops[i]? = some ops[i] := Array.getElem?_eq_getElem hin
  exact ⟨hil, _, ho, fun e hea hb => hmin _ (fV he ho hea hb)⟩
 intro h
 rw [h] at this
 simp at this
theorem Nb (he : Wm ops = true) : ∀ (fuel t : Nat) (listed : Array Bool), listed.size = ops.size → (Ce ops.size listed).length ≤ fuel →
  (Region.linearise.go .any ops fuel t listed []).Perm (Ce ops.size listed) ∧
   ∀ pre k post, Region.linearise.go .any ops fuel t listed [] = pre ++ k :: post → ∀ o, ops[k]? = some o → ∀ e, e ∈ o.after → Region.binds .any e = true → listed.getD e.on false = true ∨ e.on ∈ pre
 | 0, t, listed, hs, hf => by
  have : Ce ops.size listed = [] := List.length_eq_zero_iff.1 (by omega)
  rw [this]
  exact ⟨by simp [Region.linearise.go], fun pre k post h => by simp [Region.linearise.go] at h⟩
 | fuel + 1, t, listed, hs, hf => by
  simp only [Region.linearise.go]
  change List.Perm (match (Region.ready .any ops listed)[t % (Region.ready .any ops listed).length]? with
   | some i => Region.linearise.go .any ops fuel (t / (Region.ready .any ops listed).length) (listed.setIfInBounds i true) [i]
   | none => [].reverse) _ ∧ ∀ pre k post, (match (Region.ready .any ops listed)[t % (Region.ready .any ops listed).length]? with
   | some i => Region.linearise.go .any ops fuel (t / (Region.ready .any ops listed).length) (listed.setIfInBounds i true) [i]
   | none => [].reverse) = pre ++ k :: post → _
  cases hi : (Region.ready .any ops listed)[t % (Region.ready .any ops listed).length]? with
  | none =>
   have hnil : Region.ready .any ops listed = [] := by
    cases hr : Region.ready .any ops listed with
    | nil => rfl
    | cons x xs =>
     rw [hr] at hi
     have hlt : t % (x :: xs).length < (x :: xs).length := Nat.mod_lt _ (by simp)
     simp at hi
     simp at hlt
     omega
   have hu : Ce ops.size listed = [] := Classical.byContradiction fun h => RA he hs h hnil
   rw [hu]
   exact ⟨by simp, fun pre k post h => by simp at h⟩
  | some i =>
   simp only
   have hir : i ∈ Region.ready .any ops listed := List.mem_of_getElem? hi
   obtain ⟨hil, oi, hoi, hie⟩ := mem_ready.1 hir
   have hin : i < ops.size := (Array.getElem?_eq_some_iff.1 hoi).1
   have hiu : i ∈ Ce ops.size listed := GE.2 ⟨hin, hil⟩
   have hgne : ∀ j, j ≠ i → ∀ d, (listed.setIfInBounds i true).getD j d = listed.getD j d := fun j hj d => by
    simp [Array.getElem?_setIfInBounds_ne (fun h => hj h.symm)]
   have hgi : ∀ d, (listed.setIfInBounds i true).getD i d = true := fun d => by simp [Array.getElem?_setIfInBounds, hs, hin]
   have hnd : (Ce ops.size listed).Nodup := (List.nodup_range.sublist List.filter_sublist)
   have hper : (Ce ops.size listed).Perm (i :: Ce ops.size (listed.setIfInBounds i true)) := by
    refine (List.perm_ext_iff_of_nodup hnd ?_).2 fun j => ?_
    ·refine List.nodup_cons.2 ⟨fun h => ?_, (List.nodup_range.sublist List.filter_sublist)⟩
     have := (GE.1 h).2
     rw [hgi] at this; simp at this
    ·rw [GE, List.mem_cons, GE]
     by_cases hj : j = i
     ·subst hj; simp [hin, hil]
     ·rw [hgne j hj]; simp [hj]
   have hlen : (Ce ops.size (listed.setIfInBounds i true)).length ≤ fuel := by
    have := hper.length_eq
    simp only [List.length_cons] at this
    omega
   obtain ⟨h1, h2⟩ := Nb he fuel (t / (Region.ready .any ops listed).length) (listed.setIfInBounds i true) (by simpa using hs) hlen
   rw [linearise_go_acc, List.reverse_singleton, List.singleton_append]
   refine ⟨(List.Perm.cons i h1).trans hper.symm, fun pre k post h o ho e hea hb => ?_⟩
   cases pre with
   | nil =>
    simp only [List.nil_append, List.cons.injEq] at h
    obtain ⟨rfl, _⟩ := h
    rw [hoi] at ho
    simp only [Option.some.injEq] at ho
    subst ho
    exact .inl (hie e hea hb)
   | cons x pre =>
    simp only [List.cons_append, List.cons.injEq] at h
    obtain ⟨rfl, h⟩ := h
    rcases h2 pre k post h o ho e hea hb with h3 | h3
    ·by_cases hei : e.on = i
     ·exact .inr (by simp [hei])
     ·rw [hgne _ hei] at h3; exact .inl h3
    ·exact .inr (by simp [h3])
theorem mS {los : List AD} (hd : Yo los ops = true) (t : Nat) :
  (Region.linearise .any ops t).Perm (List.range ops.size) ∧
   ∀ i k, i < k → k < ops.size → (∃ a b, Region.linearise .any ops t = a ++ k :: b ∧ i ∈ b) → (los.getD i default).foot.apart (los.getD k default).foot = true := by
 unfold Yo at hd
 rw [Bool.and_eq_true] at hd
 obtain ⟨he, hp⟩ := hd
 have hun : Ce ops.size (Array.replicate ops.size false) = List.range ops.size := by
  unfold Ce
  rw [List.filter_eq_self]
  intro i hi
  have := List.mem_range.1 hi
  simp [Array.getD, this]
 obtain ⟨h1, h2⟩ := Nb he ops.size t (Array.replicate ops.size false) (by simp) (by rw [hun]; simp)
 rw [hun] at h1
 refine ⟨h1, fun i k hik hk hab => ?_⟩
 obtain ⟨a, b, hL, hib⟩ := hab
 change Region.linearise.go .any ops ops.size t (Array.replicate ops.size false) [] = a ++ k :: b at hL
 rw [List.all_eq_true] at hp
 have hpk := hp k (List.mem_range.2 hk)
 rw [List.all_eq_true] at hpk
 have hpi := hpk i (List.mem_range.2 hik)
 rw [Bool.or_eq_true] at hpi
 rcases hpi with hbit | hap
 ·
  exfalso
  obtain ⟨hspec, hlen⟩ := WN ops.toList ops.toList [] [] rfl rfl (fun k i hk => by simp at hk)
  have key : ∀ (k : Nat), k < ops.size → ∀ (i : Nat), ((Vw ops.toList []).getD k 0).testBit i = true → ∀ pre post, Region.linearise.go .any ops ops.size t (Array.replicate ops.size false) [] = pre ++ k :: post → i ∈ pre := by
   intro k
   induction k using Nat.strongRecOn with
   | ind k ih =>
    intro hk i hbit pre post hL
    obtain ⟨o, e, ho, hea, hb, hor⟩ := hspec k i (by rw [hlen]; simpa using hk) hbit
    have ho' : ops[k]? = some o := by simpa using ho
    have hepre : e.on ∈ pre := by
     rcases h2 pre k post hL o ho' e (by simpa using hea) hb with h3 | h3
     ·exfalso
      simp only [Array.getD_eq_getD_getElem?, Array.getElem?_replicate] at h3
      split at h3 <;> simp at h3
     ·exact h3
    rcases hor with rfl | ⟨hlt, hbit'⟩
    ·exact hepre
    ·obtain ⟨p1, p2, rfl⟩ := List.append_of_mem hepre
     have := ih e.on hlt (by omega) i hbit' p1 (p2 ++ k :: post) (by rw [hL]; simp)
     simp [this]
  have hia := key k hk i hbit a b hL
  have hnd : (a ++ k :: b).Nodup := by rw [← hL]; exact h1.nodup_iff.2 List.nodup_range
  have := (List.nodup_append.1 hnd).2.2 i hia i (by simp [hib])
  exact this rfl
 ·exact hap
end
def Qh : List AD → Bool
 | { op := .bad, guard := none, .. } :: _ => true
 | _ => false
theorem eW {LP : Aw} {C : AM} {g : Nat} {s : St} : ∀ {los : List AD}, Qh los = true → evalOps LP C g los s = none
 | [], h => by simp [Qh] at h
 | ⟨d, op, gd, ro⟩ :: r, h => by
  cases op <;> (try (simp [Qh] at h; done))
  cases gd with
  | some x => simp [Qh] at h
  | none =>
   simp only [evalOps, Ag, evalOp]
   split <;> simp_all
def GF (P : Program) (l : List Rn) (n : Nat) : Code → Bool
 | .region id ops draw => (ops.toList.all fun o => match o.dst with
  | some d => decide (d < n)
  | none => true) && (!draw || Yo (MI P (Rn.find l id) ops) ops || Qh (MI P (Rn.find l id) ops))
 | .seq a b | .cond _ a b => GF P l n a && GF P l n b
 | .block _ c | .loop c | .scope c => GF P l n c
 | .rangeFunc _ ps a b => ps.toList.all (fun t => decide (t < n)) && GF P l n a && GF P l n b
 | _ => true
def zC (P : Program) (l : List Rn) (f : Func) : Bool := match f.body with
 | some c => GF P l f.ntmps c && !(f.name == "runtime.NumGoroutine") && decide (f.params.size + f.nfree ≤ f.ntmps)
 | none => false
def vO (P : Program) (ann : Nat → List Rn) (globs : Nat → List DV) : Aw where
 funcs f := match P.funcs[f]? with
  | some fn => if zC P (ann f) fn then sK P (ann f) fn else none
  | none => none
 globs := globs
end Go.Lf
namespace Go.Lf
open Go
def DL (P : Program) (m : Machine) (Q : Machine → Prop) : Prop := ∃ m', Steps P m m' ∧ Q m'
section
variable {P : Program} {m m₁ : Machine} {Q R : Machine → Prop}
theorem DL.here (h : Q m) : DL P m Q := ⟨m, .refl P m, h⟩
theorem RJ (hs : Steps P m m₁) (h : DL P m₁ Q) : DL P m Q := by
 obtain ⟨m', h1, h2⟩ := h
 exact ⟨m', hs.trans h1, h2⟩
theorem DL.step (hs : step P m = .next m₁) (h : DL P m₁ Q) : DL P m Q := RJ (.one hs) h
theorem DL.bind (h : DL P m Q) (hr : ∀ m', Q m' → DL P m' R) : DL P m R := by
 obtain ⟨m', h1, h2⟩ := h
 exact RJ h1 (hr m' h2)
theorem DL.mono (h : DL P m Q) (hr : ∀ m', Q m' → R m') : DL P m R := h.bind fun m' hq => DL.here (hr m' hq)
end
section
variable {P : Program} {b : Frame} {a : Act} {k : List Item} {cs : List Frame} {w w' : World} {ops : Array Oper}
theorem Ln {i : Nat} {rest : List Nat} {o : Oper} (ho : ops[i]? = some o) (v : Value) :
  (b.atR a (.inRegion ops (i :: rest) :: k)).finish v = b.atR (a.put o.dst v) (.inRegion ops rest :: k) := by
 rw [Frame.finish_atR, ho]; rfl
theorem NH (o : Oper) (h : ∀ c, o.op ≠ .defer c) (ro : Option Nat) (ρ : Operand → Value) : o.semAt ro ρ = execOp ρ o := Oper.semAt_eq ro ρ o h
theorem lY {i : Nat} {rest : List Nat} {o : Oper} {v : Value} (ho : ops[i]? = some o) (hw : Region.wanted o (yielded ops a.tmps) = true)
  (hd : ∀ c, o.op ≠ .defer c) (hr : (execOp a.eval o).run P w = .ok (.value v) w') :
  step P (lone (b.atR a (.inRegion ops (i :: rest) :: k)) cs w) = .next (lone (b.atR (a.put o.dst v) (.inRegion ops rest :: k)) cs w') :=
 step_lone_go (by rw [stepGR_op ho hw, NH o hd, ← Ln ho]; simp [stepG.apply, hr])
theorem pg {i : Nat} {rest : List Nat} {o : Oper} (ho : ops[i]? = some o) (hw : Region.wanted o (yielded ops a.tmps) = true)
  (hd : ∀ c, o.op ≠ .defer c) (hr : (execOp a.eval o).run P w = .ok .skip w') :
  step P (lone (b.atR a (.inRegion ops (i :: rest) :: k)) cs w) = .next (lone (b.atR (a.put o.dst undef) (.inRegion ops rest :: k)) cs w') :=
 step_lone_go (by rw [stepGR_op ho hw, NH o hd, ← Ln ho]; simp [stepG.apply, hr])
theorem ZQ {i : Nat} {rest : List Nat} {o : Oper} {f : FuncId} {args : Array Value} (ho : ops[i]? = some o) (hw : Region.wanted o (yielded ops a.tmps) = true)
  (hd : ∀ c, o.op ≠ .defer c) (hr : (execOp a.eval o).run P w = .ok (.enter f args) w') :
  step P (lone (b.atR a (.inRegion ops (i :: rest) :: k)) cs w) = .next (lone (Frame.enter P f args .normal) (b.atR a (.inRegion ops (i :: rest) :: k) :: cs) w') :=
 step_lone_go (by rw [stepGR_op ho hw, NH o hd]; simp [stepG.apply, hr, Frame.atR])
theorem kz {i : Nat} {rest : List Nat} {o : Oper} {l : Nat} {f : FuncId} {tmps : Array Value} {assign body : Code} (ho : ops[i]? = some o)
  (hw : Region.wanted o (yielded ops a.tmps) = true) (hd : ∀ c, o.op ≠ .defer c) (hr : (execOp a.eval o).run P w = .ok (.round l f tmps assign body) w') :
  step P (lone (b.atR a (.inRegion ops (i :: rest) :: k)) cs w) = .next (lone (Frame.round l f tmps assign body .normal) (b.atR a (.inRegion ops (i :: rest) :: k) :: cs) w') :=
 step_lone_go (by rw [stepGR_op ho hw, NH o hd]; simp [stepG.apply, hr, Frame.atR])
end
end Go.Lf
