/- A part of the proof. -/
import Derived.Test.YtopknkghclncnaaGreatDoorx6
set_option linter.all false
namespace Go.Lf
open Go
section
variable (LP : BA) {F : Ib}
theorem tV (s : St) (j t : Nat) (sl : BM) : (s.setAt j t sl).low.length = s.low.length := by
 unfold St.setAt; split <;> simp
def Ib.Holds (F : Ib) (root : Option (Option Nat)) : Prop := match root with
 | none => F.bar = true
 | some (some q) => q ∈ F.wb
 | some none => True
theorem Ib.Holds.rooted {root : Option (Option Nat)} (h : F.Holds root) : F.Rooted root := by
 cases root with
 | none => exact .inr h
 | some q => cases q with
  | none => trivial
  | some q => exact .inr (.inr h)
theorem Q3 {k j t g off : Nat} {root : Option (Option Nat)} (h : Az k root (some (.ptr j t g off)) = true) : ∀ q, root = some q → j = k ∧ q = some t := by
 intro q hq
 subst hq
 simpa [Az] using h
theorem Qv {k j t g : Nat} {root : Option (Option Nat)} (h : Az k root (some (.mref j t g)) = true) : ∀ q, root = some q → j = k ∧ q = some t := by
 intro q hq
 subst hq
 simpa [Az] using h
theorem YD {root : Option (Option Nat)} (hF : F.Holds root) {s : St} {j t : Nat} {sl : BM} (hk : ∀ q, root = some q → j = s.low.length ∧ q = some t) : F.Turns s (s.setAt j t sl) := by
 cases root with
 | none => exact ⟨tV s j t sl, fun u hu => absurd (.inl hF) hu, fun hb => by rw [hF] at hb; simp at hb, fun hb => by rw [hF] at hb; simp at hb, fun hb => by rw [hF] at hb; simp at hb⟩
 | some q =>
  obtain ⟨rfl, rfl⟩ := hk q rfl
  unfold St.setAt
  rw [if_pos rfl]
  refine ⟨rfl, fun u hu => ?_, fun hb u hu => .inl ?_, fun _ _ => rfl, fun _ _ => rfl⟩
  ·simp only [CZ]
   rw [if_neg (fun e : u = t => hu (by rw [e]; exact .inr (.inr hF)))]
  ·simp only [CZ]
   rw [if_neg (fun e : u = t => hu (by rw [e]; exact hF))]
theorem cK {root : Option (Option Nat)} (hF : F.Holds root) {s r : St} (h : F.Agree s r) {j t : Nat} {sl : BM} (hk : ∀ q, root = some q → j = s.low.length ∧ q = some t) :
  F.Same (s.setAt j t sl) (r.setAt j t sl) := by
 cases root with
 | none =>
  have hl := h.low (.inr (.inr hF))
  unfold St.setAt
  rw [hl]
  split
  ·refine ⟨fun u hu => ?_, fun _ => rfl, h.same.ctr⟩
   simp only [CZ]
   rw [h.here u (.inl hF)]
  ·exact ⟨fun u hu => h.here u (.inl hF), fun _ => rfl, h.same.ctr⟩
 | some q =>
  obtain ⟨rfl, rfl⟩ := hk q rfl
  unfold St.setAt
  rw [← h.len, if_pos rfl, if_pos rfl]
  refine ⟨fun u hu => ?_, h.same.low, h.same.ctr⟩
  simp only [CZ]
  by_cases hut : u = t
  ·rw [if_pos hut, if_pos hut]
  ·rw [if_neg hut, if_neg hut]; exact h.same.env u hu
def PP {α : Type} (root : Option (Option Nat)) (j t g off : Nat) (k : List LV → Option (α × List LV)) (s : St) : Option (α × St) :=
 if Az s.low.length root (some (.ptr j t g off)) = true then match s.cells j t g with
  | some cs => match k cs with
   | some (a, cs') => some (a, s.setAt j t (.box g cs'))
   | none => none
  | none => none
 else none
theorem Ur {α : Type} {root : Option (Option Nat)} (hF : F.Holds root) (j t g off : Nat) (k : List LV → Option (α × List LV)) : Ag (PP root j t g off k) F where
 turns s a s' h := by
  unfold PP at h
  split at h
  ·rename_i hr
   split at h
   ·split at h
    ·simp only [Option.some.injEq, Prod.mk.injEq] at h
     rw [← h.2]
     exact YD hF (Q3 hr)
    ·simp at h
   ·simp at h
  ·simp at h
 same s a s' r h hag := by
  unfold PP at h
  split at h
  ·rename_i hr
   have hk := Q3 hr
   have hc := (WT (hag.at hF.rooted hk) g 0).1
   split at h
   ·rename_i cs hcs
    split at h
    ·rename_i b cs' hkc
     simp only [Option.some.injEq, Prod.mk.injEq] at h
     obtain ⟨rfl, rfl⟩ := h
     refine ⟨r.setAt j t (.box g cs'), ?_, cK hF hag hk⟩
     unfold PP
     rw [← hag.len, if_pos hr, ← hc, hcs]
     simp only [hkc]
    ·simp at h
   ·simp at h
  ·simp at h
def Ny {α : Type} (root : Option (Option Nat)) (j t g n : Nat) (k : List (List Int × LV) → Option (α × List (List Int × LV))) (s : St) : Option (α × St) :=
 if Az s.low.length root (some (.mref j t g)) = true then match s.entries j t g n with
  | some es => match k es with
   | some (a, es') => some (a, s.setAt j t (.mapo g n es'))
   | none => none
  | none => none
 else none
theorem O7 {α : Type} {root : Option (Option Nat)} (hF : F.Holds root) (j t g n : Nat) (k : List (List Int × LV) → Option (α × List (List Int × LV))) : Ag (Ny root j t g n k) F where
 turns s a s' h := by
  unfold Ny at h
  split at h
  ·rename_i hr
   split at h
   ·split at h
    ·simp only [Option.some.injEq, Prod.mk.injEq] at h
     rw [← h.2]
     exact YD hF (Qv hr)
    ·simp at h
   ·simp at h
  ·simp at h
 same s a s' r h hag := by
  unfold Ny at h
  split at h
  ·rename_i hr
   have hk := Qv hr
   have hc := (WT (hag.at hF.rooted hk) g n).2
   split at h
   ·rename_i cs hcs
    split at h
    ·rename_i b cs' hkc
     simp only [Option.some.injEq, Prod.mk.injEq] at h
     obtain ⟨rfl, rfl⟩ := h
     refine ⟨r.setAt j t (.mapo g n cs'), ?_, cK hF hag hk⟩
     unfold Ny
     rw [← hag.len, if_pos hr, ← hc, hcs]
     simp only [hkc]
    ·simp at h
   ·simp at h
  ·simp at h
def vp {α : Type} (root : Option (Option Nat)) (j t g off : Nat) (k : List LV → Option α) (s : St) : Option (α × St) :=
 (if Az s.low.length root (some (.ptr j t g off)) = true then (s.cells j t g).bind k else none).map fun a => (a, s)
theorem nA {α : Type} {root : Option (Option Nat)} (hF : F.Rooted root) (j t g off : Nat) (k : List LV → Option α) : Ag (vp root j t g off k) F := by
 refine Ey fun s r h => ?_
 rw [← h.len]
 split
 ·rename_i hr
  rw [(WT (h.at hF (Q3 hr)) g 0).1]
 ·rfl
def xq {α : Type} (root : Option (Option Nat)) (j t g n : Nat) (k : List (List Int × LV) → Option α) (s : St) : Option (α × St) :=
 (if Az s.low.length root (some (.mref j t g)) = true then (s.entries j t g n).bind k else none).map fun a => (a, s)
theorem nE {α : Type} {root : Option (Option Nat)} (hF : F.Rooted root) (j t g n : Nat) (k : List (List Int × LV) → Option α) : Ag (xq root j t g n k) F := by
 refine Ey fun s r h => ?_
 rw [← h.len]
 split
 ·rename_i hr
  rw [(WT (h.at hF (Qv hr)) g n).2]
 ·rfl
def E9 (C : AV) (g : Nat) (o : AI) (s : St) : Option St :=
 if Az s.low.length o.root (o.op.addr.map (s.val LP)) then evalOp LP C g o.dst o.op s else none
def BL (C : AV) (o : LOp) (v : Opd → LV) : Option LV := match o with
 | .move x false => some (v x)
 | .pick c a b => match Gl (v c) with
  | some true => some (v a)
  | some false => some (v b)
  | none => none
 | .build zs ps => match Cf (ps.map fun p => (p.1, p.2.1, v p.2.2)) (zs.map .d) with
  | some cs => some (LV.norm (.agg cs))
  | none => none
 | .lit k zs len ps => match Cf (ps.map fun p => (p.1, p.2.1, v p.2.2)) ((List.replicate len zs).flatten.map .d) with
  | some cs => if cs.all LV.cellOk then match AZ cs with
   | some ds => match (List.range len).mapM fun i => Au k (i * k.getD 1) ds with
    | some xs => some (.hot (k.getD 1) xs)
    | none => none
   | none => none else none
  | none => none
 | .faddr off p => KJ off (v p)
 | .field k off x => Lj k off (v x)
 | .iaddrS sz x i => match O3 (v x), Gu (v i) with
  | some (z, xs), some i => match xs[i]? with
   | some e => if z = sz then some (.d (.fptr e.cells 0)) else none
   | none => none
  | _, _ => none
 | .iaddrA sz n p i => match Gu (v i) with
  | some i => if i < n then KJ (i * sz) (v p) else none
  | none => none
 | .index k sz n x i => match Gu (v i) with
  | some i => if i < n then Lj k (i * sz) (v x) else none
  | none => none
 | .bin op x y => match Rk (v x), Rk (v y) with
  | some a, some b => (CP (binOp op 0 (.int .i64 a) (.int .i64 b))).map .d
  | _, _ => none
 | .eqb neg x y => match Gl (v x), Gl (v y) with
  | some a, some b => some (.d (.bool (if neg then a != b else a == b)))
  | _, _ => none
 | .eqa neg n x y => match (v x).aggKey, (v y).aggKey with
  | some a, some b => if a.length = n ∧ b.length = n then some (.d (.bool (if neg then decide (a ≠ b) else decide (a = b)))) else none
  | _, _ => none
 | .un op x => match v x with
  | .d (.int a) => (CP (Op.unary op (.int .i64 a))).map .d
  | .d (.bool a) => (CP (Op.unary op (.bool a))).map .d
  | _ => none
 | .call f args none => match target (v f), AZ (args.map v) with
  | some (f, a, b), some ds => match AZ a, AZ b with
   | some a, some b => match C.call f ((a ++ ds ++ b).map .d) [] 0 with
    | some (v, _, _) => v.toD.map .d
    | none => none
   | _, _ => none
  | _, _ => none
 | .len x => (mm (v x)).map fun n => .d (.int n)
 | .minmax isMax xs => (minmax isMax (xs.map v)).map fun n => .d (.int n)
 | .slice sz x lo hi mx => match optNat v lo, optNat v hi, optNat v mx with
  | some lo, some hi, some mx => QG sz (v x) lo hi mx
  | _, _, _ => none
 | .mkfn f first cap => some (LV.norm (.fn f (first.map v) (cap.map v)))
 | _ => none
def LOp.isValue : LOp → Bool
 | .move _ false | .pick _ _ _ | .build _ _ | .lit _ _ _ _ | .faddr _ _ | .field _ _ _ | .iaddrS _ _ _ | .iaddrA _ _ _ _ | .index _ _ _ _ _ | .bin _ _ _ | .eqb _ _ _ | .eqa _ _ _ _ | .un _ _
 | .call _ _ none | .len _ | .minmax _ _ | .slice _ _ _ _ _ | .mkfn _ _ _ => true
 | _ => false
theorem VY (C : AV) (g : Nat) (dst : Option Nat) {o : LOp} (ho : o.isValue = true) (s : St) : evalOp LP C g dst o s = (BL C o (s.val LP)).bind (s.put dst) := by
 cases o <;> try (simp [LOp.isValue] at ho; done)
 case move x t => cases t <;> first | rfl | simp [LOp.isValue] at ho
 case pick =>
  simp only [evalOp, BL]; repeat' split
  all_goals simp_all
 case build zs ps =>
  simp only [evalOp, BL]
  cases Cf (ps.map fun p => (p.1, p.2.1, s.val LP p.2.2)) (zs.map .d) <;> rfl
 case lit k zs len ps =>
  simp only [evalOp, BL]
  cases Cf (ps.map fun p => (p.1, p.2.1, s.val LP p.2.2)) ((List.replicate len zs).flatten.map .d) with
  | none => rfl
  | some cs =>
   by_cases hc : cs.all LV.cellOk = true
   ·simp only [hc, if_true]
    cases AZ cs with
    | none => rfl
    | some ds =>
     simp only
     cases (List.range len).mapM fun i => Au k (i * k.getD 1) ds <;> rfl
   ·simp only [hc]; rfl
 case faddr => simp only [evalOp, BL]; split <;> simp_all
 case field => simp only [evalOp, BL]; split <;> simp_all
 case iaddrS =>
  simp only [evalOp, BL]; repeat' split
  all_goals simp_all
 case iaddrA sz n p i =>
  simp only [evalOp, BL]
  cases Gu (s.val LP i) with
  | none => rfl
  | some m =>
   by_cases hm : m < n
   ·simp only [hm, if_true]; cases KJ (m * sz) (s.val LP p) <;> rfl
   ·simp only [hm, if_false]; rfl
 case index k sz n x i =>
  simp only [evalOp, BL]
  cases Gu (s.val LP i) with
  | none => rfl
  | some m =>
   by_cases hm : m < n
   ·simp only [hm, if_true]; cases Lj k (m * sz) (s.val LP x) <;> rfl
   ·simp only [hm, if_false]; rfl
 case bin =>
  simp only [evalOp, BL]; repeat' split
  all_goals simp_all
 case eqb =>
  simp only [evalOp, BL]; repeat' split
  all_goals simp_all
 case eqa =>
  simp only [evalOp, BL]; repeat' split
  all_goals simp_all
 case un =>
  simp only [evalOp, BL]; repeat' split
  all_goals simp_all
 case call f as vis =>
  cases vis <;> first | (simp [LOp.isValue] at ho; done) | skip
  simp only [evalOp, BL]
  cases target (s.val LP f) with
  | none => rfl
  | some fab =>
   obtain ⟨f', a, b⟩ := fab
   cases AZ (as.map (s.val LP)) with
   | none => rfl
   | some ds =>
    simp only
    cases AZ a with
    | none => rfl
    | some a =>
     cases AZ b with
     | none => rfl
     | some b =>
      simp only
      cases C.call f' ((a ++ ds ++ b).map .d) [] 0 with
      | none => rfl
      | some r =>
       obtain ⟨v, _, _⟩ := r
       simp only
       cases v.toD <;> rfl
 case len => simp only [evalOp, BL]; split <;> simp_all
 case minmax => simp only [evalOp, BL]; split <;> simp_all
 case slice =>
  simp only [evalOp, BL]; repeat' split
  all_goals simp_all
 case mkfn => rfl
end
end Go.Lf
namespace Go.Lf
open Go
section
variable (LP : BA) {F : Ib}
theorem II {α β : Type} {f g : α → β} : ∀ {l : List α}, (∀ x, x ∈ l → f x = g x) → l.map f = l.map g
 | [], _ => rfl
 | a :: l, h => by
  simp only [List.map_cons]
  rw [h a (by simp), II fun x hx => h x (by simp [hx])]
theorem PU {v v' : Opd → LV} : ∀ {x : Option Opd}, (∀ y, y ∈ x.toList → v y = v' y) → optNat v x = optNat v' x
 | none, _ => rfl
 | some x, h => by simp only [optNat]; rw [h x (by simp)]
theorem eJ (C : AV) (o : LOp) {v v' : Opd → LV} (h : ∀ x, x ∈ o.opds → v x = v' x) : BL C o v = BL C o v' := by
 have parts : ∀ ps : List (Nat × Nat × Opd), (∀ x, x ∈ ps.map (·.2.2) → v x = v' x) → ps.map (fun p => (p.1, p.2.1, v p.2.2)) = ps.map (fun p => (p.1, p.2.1, v' p.2.2)) := fun ps hp =>
  II fun p hm => by rw [hp p.2.2 (List.mem_map.2 ⟨p, hm, rfl⟩)]
 cases o <;> simp only [LOp.opds, List.mem_cons, List.not_mem_nil, or_false, forall_eq_or_imp, forall_eq] at h <;> try rfl
 case move x t => cases t <;> simp only [BL, h]
 case pick => simp only [BL, h.1, h.2.1, h.2.2]
 case build zs ps => simp only [BL]; rw [parts ps h]
 case lit k zs len ps => simp only [BL]; rw [parts ps h]
 case faddr => simp only [BL, h]
 case field => simp only [BL, h]
 case iaddrS => simp only [BL, h.1, h.2]
 case iaddrA => simp only [BL, h.1, h.2]
 case index => simp only [BL, h.1, h.2]
 case bin => simp only [BL, h.1, h.2]
 case eqb => simp only [BL, h.1, h.2]
 case eqa => simp only [BL, h.1, h.2]
 case un => simp only [BL, h]
 case call f as vis =>
  cases vis with
  | none => simp only [BL]; rw [h.1, II h.2]
  | some vis => rfl
 case len => simp only [BL, h]
 case minmax b xs => simp only [BL]; rw [II h]
 case slice sz x lo hi mx =>
  simp only [BL]
  rw [h.1, PU fun y hy => h.2 y (by simp [hy]), PU fun y hy => h.2 y (by simp [hy]), PU fun y hy => h.2 y (by simp [hy])]
 case mkfn f a b =>
  simp only [BL]
  rw [II fun x hx => h x (by simp [hx]), II (l := b) fun x hx => h x (by simp [hx])]
def AI.rd0 (o : AI) : List Nat := o.op.opds.flatMap Opd.tmp? ++ (match o.guard with | some (t, _) => [t] | none => [])
theorem s9 (o : AI) {t : Nat} (h : t ∈ o.rd0) : t ∈ o.foot.rd := by
 obtain ⟨dst, op, guard, root⟩ := o
 unfold AI.foot
 dsimp only [AI.rd0] at h
 cases op <;> first | exact h | skip
 case move x b => cases b <;> exact h
 case extract i x b => cases b <;> exact h
 case load k p b => cases b <;> cases root <;> first | exact h | exact List.mem_append_right _ h
 case lookup => cases root <;> first | exact h | exact List.mem_append_right _ h
 case store => cases root <;> exact h
 case mapset => cases root <;> exact h
 case mstore => cases root <;> exact h
 case mentry => cases root <;> exact h
 case call f as vis => cases vis <;> exact h
theorem lj (o : AI) {x : Opd} (hx : x ∈ o.op.opds) : o.foot.Sees x := fun t ht => .inl (s9 o (List.mem_append_left _ (List.mem_flatMap.2 ⟨x, hx, by subst ht; simp [Opd.tmp?]⟩)))
theorem BD {f : St → Option St} {h : St → Option (Unit × St)} (he : ∀ s, f s = (h s).map (·.2)) (hl : Ag h F) : Dk f F := by
 refine ue ?_
 have : (fun s => (f s).map fun s' => ((), s')) = h := by
  funext s
  rw [he s]
  cases h s <;> rfl
 rw [this]; exact hl
theorem BZ (dst : Option Nat) (v : LV) (s : St) : s.put dst v = (VH dst v s).map (·.2) := by
 unfold VH; cases s.put dst v <;> rfl
theorem A3 {C : AV} {g : Nat} {o : AI} (h : o.op.addr = none) (s : St) : E9 LP C g o s = evalOp LP C g o.dst o.op s := by
 unfold E9
 rw [h]
 have : Az s.low.length o.root (Option.map (s.val LP) none) = true := by cases o.root <;> rfl
 rw [if_pos this]
theorem dU {o : AI} (h : o.op.isValue = true) : o.foot.wv = o.dst.toList := by
 obtain ⟨dst, op, guard, root⟩ := o
 cases op <;> try (simp [LOp.isValue] at h; done)
 all_goals first
  | rfl
  | skip
 case move x b => cases b <;> first | rfl | simp [LOp.isValue] at h
 case call f as vis => cases vis <;> first | rfl | simp [LOp.isValue] at h
theorem uh {o : AI} {d : Nat} (h : o.dst = some d) : d ∈ o.dst.toList := by rw [h]; simp
theorem lz (C : AV) (g : Nat) {o : AI} (h : o.op.isValue = true) : Dk (E9 LP C g o) o.foot := by
 have hadd : o.op.addr = none := by
  cases ho : o.op <;> rw [ho] at h <;> first | rfl | simp [LOp.isValue] at h
 refine BD (h := CN (fun s => (BL C o.op (s.val LP)).map fun v => (v, s)) fun v => VH o.dst v) (fun s => ?_) (Ag.bind (Ey fun s r hag => eJ C o.op fun x hx => hag.val LP (lj o hx)) fun v => Dz (fun d hd => ?_) v)
 ·rw [A3 LP hadd, VY LP C g o.dst h]
  unfold CN
  cases hv : BL C o.op (s.val LP) with
  | none => simp only [hv]; rfl
  | some v => simp only [hv, Option.map_some, Option.bind_some]; exact BZ _ _ _
 ·exact .inr (.inl (by rw [dU h]; exact uh hd))
theorem rn (C : AV) (g : Nat) {x : Opd} {dst : Option Nat} {guard : Option (Nat × Bool)} {root : Option (Option Nat)} :
  Dk (E9 LP C g { dst, op := .move x true, guard, root }) (AI.foot { dst, op := .move x true, guard, root }) := by
 refine BD (h := CN (OD LP x) fun v => VH dst v) (fun s => ?_) (Ag.bind (MB LP fun t ht => ?_) fun v => Dz (fun d hd => ?_) v)
 ·rw [A3 LP rfl]
  simp only [evalOp, CN, OD]
  exact BZ _ _ _
 ·subst ht; exact .inr (.inl (by simp [AI.foot, Opd.tmp?]))
 ·subst hd; exact .inr (.inl (by simp [AI.foot]))
theorem j8 (C : AV) (g : Nat) {sz q : Nat} {x y : Opd} {dst : Option Nat} {guard : Option (Nat × Bool)} {root : Option (Option Nat)} :
  Dk (E9 LP C g { dst, op := .append sz q x y, guard, root }) (AI.foot { dst, op := .append sz q x y, guard, root }) := by
 refine BD (h := CN (OD LP x) fun v => CN (rdV LP y) fun u => match BI sz q v u with | some r => VH dst r | none => fun _ => none) (fun s => ?_)
  (Ag.bind (MB LP fun t ht => ?_) fun v => Ag.bind (G1 LP (lj { dst, op := .append sz q x y, guard, root } (by simp [LOp.opds]))) fun u => ?_)
 ·rw [A3 LP rfl]
  simp only [evalOp, CN, OD, rdV]
  cases BI sz q (s.take LP x).1 ((s.take LP x).2.val LP y) with
  | none => rfl
  | some r => exact BZ _ _ _
 ·subst ht; exact .inr (.inl (by simp [AI.foot, Opd.tmp?]))
 ·cases BI sz q v u with
  | none => exact Ag.fail
  | some r => exact Dz (fun d hd => by subst hd; exact .inr (.inl (by simp [AI.foot]))) r
theorem O0 {d : Nat} (hd : d ∈ F.wb) (sl : BM) : Ag (fun s => some ((), { s with env := s.env.set d sl })) F := by
 have := NU (F := F) (d := d) (.inr (.inr hd)) sl (fun _ => true) (fun _ h => absurd hd h)
 simpa using this
theorem ni (C : AV) (g : Nat) {zs : List DV} {dst : Option Nat} {guard : Option (Nat × Bool)} {root : Option (Option Nat)} :
  Dk (E9 LP C g { dst, op := .alloc zs, guard, root }) (AI.foot { dst, op := .alloc zs, guard, root }) := by
 cases dst with
 | none => exact BD (h := fun _ => none) (fun s => by rw [A3 LP rfl]; rfl) Ag.fail
 | some d => exact BD (h := fun s => some ((), { s with env := s.env.set d (.box g (zs.map .d)) })) (fun s => by rw [A3 LP rfl]; rfl) (O0 (by simp [AI.foot]) _)
theorem ns (C : AV) (g : Nat) {n : Nat} {dst : Option Nat} {guard : Option (Nat × Bool)} {root : Option (Option Nat)} :
  Dk (E9 LP C g { dst, op := .mkmap n, guard, root }) (AI.foot { dst, op := .mkmap n, guard, root }) := by
 cases dst with
 | none => exact BD (h := fun _ => none) (fun s => by rw [A3 LP rfl]; rfl) Ag.fail
 | some d => exact BD (h := fun s => some ((), { s with env := s.env.set d (.mapo g n []) })) (fun s => by rw [A3 LP rfl]; rfl) (O0 (by simp [AI.foot]) _)
theorem ti (C : AV) (g : Nat) {n : Nat} {x : Opd} {dst : Option Nat} {guard : Option (Nat × Bool)} {root : Option (Option Nat)} :
  Dk (E9 LP C g { dst, op := .box n x, guard, root }) (AI.foot { dst, op := .box n x, guard, root }) := by
 cases dst with
 | none => exact BD (h := fun _ => none) (fun s => by rw [A3 LP rfl]; rfl) Ag.fail
 | some d =>
  refine BD (h := CN (rdV LP x) fun v => match v.known with
   | some cs => if cs.length = n ∧ cs.all LV.cellOk then (fun s => some ((), { s with env := s.env.set d (.box g cs) })) else fun _ => none
   | none => fun _ => none) (fun s => ?_) (Ag.bind (G1 LP (lj { dst := some d, op := .box n x, guard, root } (by simp [LOp.opds]))) fun v => ?_)
  ·rw [A3 LP rfl]
   simp only [evalOp, CN, rdV]
   cases (s.val LP x).known with
   | none => rfl
   | some cs => simp only; split <;> rfl
  ·cases v.known with
   | none => exact Ag.fail
   | some cs =>
    simp only
    split
    ·exact O0 (by simp [AI.foot]) _
    ·exact Ag.fail
theorem eS (C : AV) (g : Nat) {i : Nat} {x : Opd} {take : Bool} {dst : Option Nat} {guard : Option (Nat × Bool)} {root : Option (Option Nat)} :
  Dk (E9 LP C g { dst, op := .extract i x take, guard, root }) (AI.foot { dst, op := .extract i x take, guard, root }) := by
 cases x with
 | con v => exact BD (h := fun _ => none) (fun s => by rw [A3 LP rfl]; rfl) Ag.fail
 | glob v => exact BD (h := fun _ => none) (fun s => by rw [A3 LP rfl]; rfl) Ag.fail
 | tmp t =>
  let F := AI.foot { dst, op := .extract i (.tmp t) take, guard, root }
  have hs : F.Sees (.tmp t) := lj { dst, op := .extract i (.tmp t) take, guard, root } (by simp [LOp.opds])
  have hd : ∀ d, dst = some d → F.W d := fun d hd => .inr (.inl (by subst hd; cases take <;> simp [F, AI.foot]))
  refine BD (h := CN (fun s => some (s.env.get t, s)) fun sl => match sl with
   | some (.v (.d (.tup cs))) => match cs[i]? with
    | some y => VH dst (.d y)
    | none => fun _ => none
   | some (.v (.tup cs)) => match take, cs[i]? with
    | true, some (.hot z xs) => CN (fun s => if okV (s.env.get t) = true then some ((), { s with env := s.env.set t (.v (.tup (cs.set i (.d (.slice z xs))))) }) else none) fun _ => VH dst (.hot z xs)
    | _, some y => VH dst y.copy
    | _, none => fun _ => none
   | _ => fun _ => none) (fun s => ?_) (Ag.bind ?_ fun sl => ?_)
  ·rw [A3 LP rfl]
   simp only [evalOp, CN]
   cases hg : s.env.get t with
   | none => rfl
   | some sl =>
    cases sl with
    | box => rfl
    | mapo => rfl
    | v y =>
     cases y with
     | d y =>
      cases y with
      | tup cs => simp only; cases cs[i]? with
       | none => rfl
       | some y => exact BZ _ _ _
      | _ => rfl
     | tup cs =>
      cases take with
      | false =>
       simp only
       cases cs[i]? with
       | none => rfl
       | some y => exact BZ _ _ _
      | true =>
       simp only
       cases hc : cs[i]? with
       | none => rfl
       | some y =>
        cases y with
        | hot z xs =>
         simp only [CN, hg, okV, if_true]
         exact BZ _ _ _
        | d y => exact BZ _ _ _
        | full a b => exact BZ _ _ _
        | ptr a b c e => exact BZ _ _ _
        | mref a b c => exact BZ _ _ _
        | agg a => exact BZ _ _ _
        | tup a => exact BZ _ _ _
        | fn a b c => exact BZ _ _ _
        | fptr a b => exact BZ _ _ _
        | yield a b => exact BZ _ _ _
     | _ => rfl
  ·exact Ey (F := F) (f := fun s => some (s.env.get t)) fun s r h => by rw [h.here t (.inr (hs t rfl))]
  ·split
   ·split
    ·exact Dz hd _
    ·exact Ag.fail
   ·split
    ·exact Ag.bind (NU (F := F) (d := t) (.inr (.inl (by simp [F, AI.foot, Opd.tmp?]))) _ okV (fun _ _ => ⟨tD, trivial⟩)) fun _ => Dz hd _
    ·exact Dz hd _
    ·exact Ag.fail
   ·exact Ag.fail
end
end Go.Lf
