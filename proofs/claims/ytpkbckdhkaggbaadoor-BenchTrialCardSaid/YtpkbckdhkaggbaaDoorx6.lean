/- A part of the proof. -/
import Derived.Test.YtpkbckdhkaggbaaDoorx5
set_option linter.all false
namespace Go.Lf
open Go
section
variable (LP : A2) {F : Gg}
theorem kz (s : St) (j t : Nat) (sl : BE) : (s.setAt j t sl).low.length = s.low.length := by
 unfold St.setAt; split <;> simp
def Gg.Holds (F : Gg) (root : Option (Option Nat)) : Prop := match root with
 | none => F.bar = true
 | some (some q) => q ∈ F.wb
 | some none => True
theorem Gg.Holds.rooted {root : Option (Option Nat)} (h : F.Holds root) : F.Rooted root := by
 cases root with
 | none => exact .inr h
 | some q => cases q with
  | none => trivial
  | some q => exact .inr (.inr h)
theorem OK {k j t g off : Nat} {root : Option (Option Nat)} (h : Ak k root (some (.ptr j t g off)) = true) : ∀ q, root = some q → j = k ∧ q = some t := by
 intro q hq
 subst hq
 simpa [Ak] using h
theorem OE {k j t g : Nat} {root : Option (Option Nat)} (h : Ak k root (some (.mref j t g)) = true) : ∀ q, root = some q → j = k ∧ q = some t := by
 intro q hq
 subst hq
 simpa [Ak] using h
theorem T8 {root : Option (Option Nat)} (hF : F.Holds root) {s : St} {j t : Nat} {sl : BE} (hk : ∀ q, root = some q → j = s.low.length ∧ q = some t) : F.Turns s (s.setAt j t sl) := by
 cases root with
 | none => exact ⟨kz s j t sl, fun u hu => absurd (.inl hF) hu, fun hb => by rw [hF] at hb; simp at hb, fun hb => by rw [hF] at hb; simp at hb, fun hb => by rw [hF] at hb; simp at hb⟩
 | some q =>
  obtain ⟨rfl, rfl⟩ := hk q rfl
  unfold St.setAt
  rw [if_pos rfl]
  refine ⟨rfl, fun u hu => ?_, fun hb u hu => .inl ?_, fun _ _ => rfl, fun _ _ => rfl⟩
  ·simp only [CE]
   rw [if_neg (fun e : u = t => hu (by rw [e]; exact .inr (.inr hF)))]
  ·simp only [CE]
   rw [if_neg (fun e : u = t => hu (by rw [e]; exact hF))]
theorem Xc {root : Option (Option Nat)} (hF : F.Holds root) {s r : St} (h : F.Agree s r) {j t : Nat} {sl : BE} (hk : ∀ q, root = some q → j = s.low.length ∧ q = some t) :
  F.Same (s.setAt j t sl) (r.setAt j t sl) := by
 cases root with
 | none =>
  have hl := h.low (.inr (.inr hF))
  unfold St.setAt
  rw [hl]
  split
  ·refine ⟨fun u hu => ?_, fun _ => rfl, h.same.ctr⟩
   simp only [CE]
   rw [h.here u (.inl hF)]
  ·exact ⟨fun u hu => h.here u (.inl hF), fun _ => rfl, h.same.ctr⟩
 | some q =>
  obtain ⟨rfl, rfl⟩ := hk q rfl
  unfold St.setAt
  rw [← h.len, if_pos rfl, if_pos rfl]
  refine ⟨fun u hu => ?_, h.same.low, h.same.ctr⟩
  simp only [CE]
  by_cases hut : u = t
  ·rw [if_pos hut, if_pos hut]
  ·rw [if_neg hut, if_neg hut]; exact h.same.env u hu
def L2 {α : Type} (root : Option (Option Nat)) (j t g off : Nat) (k : List LV → Option (α × List LV)) (s : St) : Option (α × St) :=
 if Ak s.low.length root (some (.ptr j t g off)) = true then match s.cells j t g with
  | some cs => match k cs with
   | some (a, cs') => some (a, s.setAt j t (.box g cs'))
   | none => none
  | none => none
 else none
theorem Q9 {α : Type} {root : Option (Option Nat)} (hF : F.Holds root) (j t g off : Nat) (k : List LV → Option (α × List LV)) : Ac (L2 root j t g off k) F where
 turns s a s' h := by
  unfold L2 at h
  split at h
  ·rename_i hr
   split at h
   ·split at h
    ·simp only [Option.some.injEq, Prod.mk.injEq] at h
     rw [← h.2]
     exact T8 hF (OK hr)
    ·simp at h
   ·simp at h
  ·simp at h
 same s a s' r h hag := by
  unfold L2 at h
  split at h
  ·rename_i hr
   have hk := OK hr
   have hc := (S7 (hag.at hF.rooted hk) g 0).1
   split at h
   ·rename_i cs hcs
    split at h
    ·rename_i b cs' hkc
     simp only [Option.some.injEq, Prod.mk.injEq] at h
     obtain ⟨rfl, rfl⟩ := h
     refine ⟨r.setAt j t (.box g cs'), ?_, Xc hF hag hk⟩
     unfold L2
     rw [← hag.len, if_pos hr, ← hc, hcs]
     simp only [hkc]
    ·simp at h
   ·simp at h
  ·simp at h
def K1 {α : Type} (root : Option (Option Nat)) (j t g n : Nat) (k : List (List Int × LV) → Option (α × List (List Int × LV))) (s : St) : Option (α × St) :=
 if Ak s.low.length root (some (.mref j t g)) = true then match s.entries j t g n with
  | some es => match k es with
   | some (a, es') => some (a, s.setAt j t (.mapo g n es'))
   | none => none
  | none => none
 else none
theorem LN {α : Type} {root : Option (Option Nat)} (hF : F.Holds root) (j t g n : Nat) (k : List (List Int × LV) → Option (α × List (List Int × LV))) : Ac (K1 root j t g n k) F where
 turns s a s' h := by
  unfold K1 at h
  split at h
  ·rename_i hr
   split at h
   ·split at h
    ·simp only [Option.some.injEq, Prod.mk.injEq] at h
     rw [← h.2]
     exact T8 hF (OE hr)
    ·simp at h
   ·simp at h
  ·simp at h
 same s a s' r h hag := by
  unfold K1 at h
  split at h
  ·rename_i hr
   have hk := OE hr
   have hc := (S7 (hag.at hF.rooted hk) g n).2
   split at h
   ·rename_i cs hcs
    split at h
    ·rename_i b cs' hkc
     simp only [Option.some.injEq, Prod.mk.injEq] at h
     obtain ⟨rfl, rfl⟩ := h
     refine ⟨r.setAt j t (.mapo g n cs'), ?_, Xc hF hag hk⟩
     unfold K1
     rw [← hag.len, if_pos hr, ← hc, hcs]
     simp only [hkc]
    ·simp at h
   ·simp at h
  ·simp at h
def nU {α : Type} (root : Option (Option Nat)) (j t g off : Nat) (k : List LV → Option α) (s : St) : Option (α × St) :=
 (if Ak s.low.length root (some (.ptr j t g off)) = true then (s.cells j t g).bind k else none).map fun a => (a, s)
theorem eJ {α : Type} {root : Option (Option Nat)} (hF : F.Rooted root) (j t g off : Nat) (k : List LV → Option α) : Ac (nU root j t g off k) F := by
 refine EA fun s r h => ?_
 rw [← h.len]
 split
 ·rename_i hr
  rw [(S7 (h.at hF (OK hr)) g 0).1]
 ·rfl
def qM {α : Type} (root : Option (Option Nat)) (j t g n : Nat) (k : List (List Int × LV) → Option α) (s : St) : Option (α × St) :=
 (if Ak s.low.length root (some (.mref j t g)) = true then (s.entries j t g n).bind k else none).map fun a => (a, s)
theorem eH {α : Type} {root : Option (Option Nat)} (hF : F.Rooted root) (j t g n : Nat) (k : List (List Int × LV) → Option α) : Ac (qM root j t g n k) F := by
 refine EA fun s r h => ?_
 rw [← h.len]
 split
 ·rename_i hr
  rw [(S7 (h.at hF (OE hr)) g n).2]
 ·rfl
def EK (C : AP) (g : Nat) (o : AG) (s : St) : Option St :=
 if Ak s.low.length o.root (o.op.addr.map (s.val LP)) then evalOp LP C g o.dst o.op s else none
def BD (C : AP) (o : u5) (v : vD → LV) : Option LV := match o with
 | .move x false => some (v x)
 | .pick c a b => match E0 (v c) with
  | some true => some (v a)
  | some false => some (v b)
  | none => none
 | .build zs ps => match CJ (ps.map fun p => (p.1, p.2.1, v p.2.2)) (zs.map .d) with
  | some cs => some (LV.norm (.agg cs))
  | none => none
 | .lit k zs len ps => match CJ (ps.map fun p => (p.1, p.2.1, v p.2.2)) ((List.replicate len zs).flatten.map .d) with
  | some cs => if cs.all LV.cellOk then match AU cs with
   | some ds => match (List.range len).mapM fun i => Ax k (i * k.getD 1) ds with
    | some xs => some (.hot (k.getD 1) xs)
    | none => none
   | none => none else none
  | none => none
 | .faddr off p => IS off (v p)
 | .field k off x => Jk k off (v x)
 | .iaddrS sz x i => match MI (v x), E8 (v i) with
  | some (z, xs), some i => match xs[i]? with
   | some e => if z = sz then some (.d (.fptr e.cells 0)) else none
   | none => none
  | _, _ => none
 | .iaddrA sz n p i => match E8 (v i) with
  | some i => if i < n then IS (i * sz) (v p) else none
  | none => none
 | .index k sz n x i => match E8 (v i) with
  | some i => if i < n then Jk k (i * sz) (v x) else none
  | none => none
 | .bin op x y => match QF (v x), QF (v y) with
  | some a, some b => (Bm (binOp op 0 (.int .i64 a) (.int .i64 b))).map .d
  | _, _ => none
 | .eqb neg x y => match E0 (v x), E0 (v y) with
  | some a, some b => some (.d (.bool (if neg then a != b else a == b)))
  | _, _ => none
 | .eqa neg n x y => match (v x).aggKey, (v y).aggKey with
  | some a, some b => if a.length = n ∧ b.length = n then some (.d (.bool (if neg then decide (a ≠ b) else decide (a = b)))) else none
  | _, _ => none
 | .un op x => match v x with
  | .d (.int a) => (Bm (Op.unary op (.int .i64 a))).map .d
  | .d (.bool a) => (Bm (Op.unary op (.bool a))).map .d
  | _ => none
 | .call f args none => match target (v f), AU (args.map v) with
  | some (f, a, b), some ds => match AU a, AU b with
   | some a, some b => match C.call f ((a ++ ds ++ b).map .d) [] 0 with
    | some (v, _, _) => v.toD.map .d
    | none => none
   | _, _ => none
  | _, _ => none
 | .len x => (eS (v x)).map fun n => .d (.int n)
 | .minmax isMax xs => (minmax isMax (xs.map v)).map fun n => .d (.int n)
 | .slice sz x lo hi mx => match optNat v lo, optNat v hi, optNat v mx with
  | some lo, some hi, some mx => NM sz (v x) lo hi mx
  | _, _, _ => none
 | .mkfn f first cap => some (LV.norm (.fn f (first.map v) (cap.map v)))
 | _ => none
def u5.isValue : u5 → Bool
 | .move _ false | .pick _ _ _ | .build _ _ | .lit _ _ _ _ | .faddr _ _ | .field _ _ _ | .iaddrS _ _ _ | .iaddrA _ _ _ _ | .index _ _ _ _ _ | .bin _ _ _ | .eqb _ _ _ | .eqa _ _ _ _ | .un _ _
 | .call _ _ none | .len _ | .minmax _ _ | .slice _ _ _ _ _ | .mkfn _ _ _ => true
 | _ => false
theorem RL (C : AP) (g : Nat) (dst : Option Nat) {o : u5} (ho : o.isValue = true) (s : St) : evalOp LP C g dst o s = (BD C o (s.val LP)).bind (s.put dst) := by
 cases o <;> try (simp [u5.isValue] at ho; done)
 case move x t => cases t <;> first | rfl | simp [u5.isValue] at ho
 case pick =>
  simp only [evalOp, BD]; repeat' split
  all_goals simp_all
 case build zs ps =>
  simp only [evalOp, BD]
  cases CJ (ps.map fun p => (p.1, p.2.1, s.val LP p.2.2)) (zs.map .d) <;> rfl
 case lit k zs len ps =>
  simp only [evalOp, BD]
  cases CJ (ps.map fun p => (p.1, p.2.1, s.val LP p.2.2)) ((List.replicate len zs).flatten.map .d) with
  | none => rfl
  | some cs =>
   by_cases hc : cs.all LV.cellOk = true
   ·simp only [hc, if_true]
    cases AU cs with
    | none => rfl
    | some ds =>
     simp only
     cases (List.range len).mapM fun i => Ax k (i * k.getD 1) ds <;> rfl
   ·simp only [hc]; rfl
 case faddr => simp only [evalOp, BD]; split <;> simp_all
 case field => simp only [evalOp, BD]; split <;> simp_all
 case iaddrS =>
  simp only [evalOp, BD]; repeat' split
  all_goals simp_all
 case iaddrA sz n p i =>
  simp only [evalOp, BD]
  cases E8 (s.val LP i) with
  | none => rfl
  | some m =>
   by_cases hm : m < n
   ·simp only [hm, if_true]; cases IS (m * sz) (s.val LP p) <;> rfl
   ·simp only [hm, if_false]; rfl
 case index k sz n x i =>
  simp only [evalOp, BD]
  cases E8 (s.val LP i) with
  | none => rfl
  | some m =>
   by_cases hm : m < n
   ·simp only [hm, if_true]; cases Jk k (m * sz) (s.val LP x) <;> rfl
   ·simp only [hm, if_false]; rfl
 case bin =>
  simp only [evalOp, BD]; repeat' split
  all_goals simp_all
 case eqb =>
  simp only [evalOp, BD]; repeat' split
  all_goals simp_all
 case eqa =>
  simp only [evalOp, BD]; repeat' split
  all_goals simp_all
 case un =>
  simp only [evalOp, BD]; repeat' split
  all_goals simp_all
 case call f as vis =>
  cases vis <;> first | (simp [u5.isValue] at ho; done) | skip
  simp only [evalOp, BD]
  cases target (s.val LP f) with
  | none => rfl
  | some fab =>
   obtain ⟨f', a, b⟩ := fab
   cases AU (as.map (s.val LP)) with
   | none => rfl
   | some ds =>
    simp only
    cases AU a with
    | none => rfl
    | some a =>
     cases AU b with
     | none => rfl
     | some b =>
      simp only
      cases C.call f' ((a ++ ds ++ b).map .d) [] 0 with
      | none => rfl
      | some r =>
       obtain ⟨v, _, _⟩ := r
       simp only
       cases v.toD <;> rfl
 case len => simp only [evalOp, BD]; split <;> simp_all
 case minmax => simp only [evalOp, BD]; split <;> simp_all
 case slice =>
  simp only [evalOp, BD]; repeat' split
  all_goals simp_all
 case mkfn => rfl
end
end Go.Lf
namespace Go.Lf
open Go
section
variable (LP : A2) {F : Gg}
theorem Gv {α β : Type} {f g : α → β} : ∀ {l : List α}, (∀ x, x ∈ l → f x = g x) → l.map f = l.map g
 | [], _ => rfl
 | a :: l, h => by
  simp only [List.map_cons]
  rw [h a (by simp), Gv fun x hx => h x (by simp [hx])]
theorem L9 {v v' : vD → LV} : ∀ {x : Option vD}, (∀ y, y ∈ x.toList → v y = v' y) → optNat v x = optNat v' x
 | none, _ => rfl
 | some x, h => by simp only [optNat]; rw [h x (by simp)]
theorem Y5 (C : AP) (o : u5) {v v' : vD → LV} (h : ∀ x, x ∈ o.opds → v x = v' x) : BD C o v = BD C o v' := by
 have parts : ∀ ps : List (Nat × Nat × vD), (∀ x, x ∈ ps.map (·.2.2) → v x = v' x) → ps.map (fun p => (p.1, p.2.1, v p.2.2)) = ps.map (fun p => (p.1, p.2.1, v' p.2.2)) := fun ps hp =>
  Gv fun p hm => by rw [hp p.2.2 (List.mem_map.2 ⟨p, hm, rfl⟩)]
 cases o <;> simp only [u5.opds, List.mem_cons, List.not_mem_nil, or_false, forall_eq_or_imp, forall_eq] at h <;> try rfl
 case move x t => cases t <;> simp only [BD, h]
 case pick => simp only [BD, h.1, h.2.1, h.2.2]
 case build zs ps => simp only [BD]; rw [parts ps h]
 case lit k zs len ps => simp only [BD]; rw [parts ps h]
 case faddr => simp only [BD, h]
 case field => simp only [BD, h]
 case iaddrS => simp only [BD, h.1, h.2]
 case iaddrA => simp only [BD, h.1, h.2]
 case index => simp only [BD, h.1, h.2]
 case bin => simp only [BD, h.1, h.2]
 case eqb => simp only [BD, h.1, h.2]
 case eqa => simp only [BD, h.1, h.2]
 case un => simp only [BD, h]
 case call f as vis =>
  cases vis with
  | none => simp only [BD]; rw [h.1, Gv h.2]
  | some vis => rfl
 case len => simp only [BD, h]
 case minmax b xs => simp only [BD]; rw [Gv h]
 case slice sz x lo hi mx =>
  simp only [BD]
  rw [h.1, L9 fun y hy => h.2 y (by simp [hy]), L9 fun y hy => h.2 y (by simp [hy]), L9 fun y hy => h.2 y (by simp [hy])]
 case mkfn f a b =>
  simp only [BD]
  rw [Gv fun x hx => h x (by simp [hx]), Gv (l := b) fun x hx => h x (by simp [hx])]
def AG.rd0 (o : AG) : List Nat := o.op.opds.flatMap vD.tmp? ++ (match o.guard with | some (t, _) => [t] | none => [])
theorem kr (o : AG) {t : Nat} (h : t ∈ o.rd0) : t ∈ o.foot.rd := by
 obtain ⟨dst, op, guard, root⟩ := o
 unfold AG.foot
 dsimp only [AG.rd0] at h
 cases op <;> first | exact h | skip
 case move x b => cases b <;> exact h
 case extract i x b => cases b <;> exact h
 case load k p b => cases b <;> cases root <;> first | exact h | exact List.mem_append_right _ h
 case lookup => cases root <;> first | exact h | exact List.mem_append_right _ h
 case store => cases root <;> exact h
 case mapset => cases root <;> exact h
 case mstore => cases root <;> exact h
 case mentry => cases root <;> exact h
 case call f as vis => cases vis <;> exact h
theorem dV (o : AG) {x : vD} (hx : x ∈ o.op.opds) : o.foot.Sees x := fun t ht => .inl (kr o (List.mem_append_left _ (List.mem_flatMap.2 ⟨x, hx, by subst ht; simp [vD.tmp?]⟩)))
theorem A4 {f : St → Option St} {h : St → Option (Unit × St)} (he : ∀ s, f s = (h s).map (·.2)) (hl : Ac h F) : C5 f F := by
 refine lx ?_
 have : (fun s => (f s).map fun s' => ((), s')) = h := by
  funext s
  rw [he s]
  cases h s <;> rfl
 rw [this]; exact hl
theorem BN (dst : Option Nat) (v : LV) (s : St) : s.put dst v = (RP dst v s).map (·.2) := by
 unfold RP; cases s.put dst v <;> rfl
theorem As {C : AP} {g : Nat} {o : AG} (h : o.op.addr = none) (s : St) : EK LP C g o s = evalOp LP C g o.dst o.op s := by
 unfold EK
 rw [h]
 have : Ak s.low.length o.root (Option.map (s.val LP) none) = true := by cases o.root <;> rfl
 rw [if_pos this]
theorem XD {o : AG} (h : o.op.isValue = true) : o.foot.wv = o.dst.toList := by
 obtain ⟨dst, op, guard, root⟩ := o
 cases op <;> try (simp [u5.isValue] at h; done)
 all_goals first
  | rfl
  | skip
 case move x b => cases b <;> first | rfl | simp [u5.isValue] at h
 case call f as vis => cases vis <;> first | rfl | simp [u5.isValue] at h
theorem lQ {o : AG} {d : Nat} (h : o.dst = some d) : d ∈ o.dst.toList := by rw [h]; simp
theorem dp (C : AP) (g : Nat) {o : AG} (h : o.op.isValue = true) : C5 (EK LP C g o) o.foot := by
 have hadd : o.op.addr = none := by
  cases ho : o.op <;> rw [ho] at h <;> first | rfl | simp [u5.isValue] at h
 refine A4 (h := Bw (fun s => (BD C o.op (s.val LP)).map fun v => (v, s)) fun v => RP o.dst v) (fun s => ?_) (Ac.bind (EA fun s r hag => Y5 C o.op fun x hx => hag.val LP (dV o hx)) fun v => DI (fun d hd => ?_) v)
 ·rw [As LP hadd, RL LP C g o.dst h]
  unfold Bw
  cases hv : BD C o.op (s.val LP) with
  | none => simp only [hv]; rfl
  | some v => simp only [hv, Option.map_some, Option.bind_some]; exact BN _ _ _
 ·exact .inr (.inl (by rw [XD h]; exact lQ hd))
theorem jH (C : AP) (g : Nat) {x : vD} {dst : Option Nat} {guard : Option (Nat × Bool)} {root : Option (Option Nat)} :
  C5 (EK LP C g { dst, op := .move x true, guard, root }) (AG.foot { dst, op := .move x true, guard, root }) := by
 refine A4 (h := Bw (LD LP x) fun v => RP dst v) (fun s => ?_) (Ac.bind (JP LP fun t ht => ?_) fun v => DI (fun d hd => ?_) v)
 ·rw [As LP rfl]
  simp only [evalOp, Bw, LD]
  exact BN _ _ _
 ·subst ht; exact .inr (.inl (by simp [AG.foot, vD.tmp?]))
 ·subst hd; exact .inr (.inl (by simp [AG.foot]))
theorem aG (C : AP) (g : Nat) {sz q : Nat} {x y : vD} {dst : Option Nat} {guard : Option (Nat × Bool)} {root : Option (Option Nat)} :
  C5 (EK LP C g { dst, op := .append sz q x y, guard, root }) (AG.foot { dst, op := .append sz q x y, guard, root }) := by
 refine A4 (h := Bw (LD LP x) fun v => Bw (t4 LP y) fun u => match A7 sz q v u with | some r => RP dst r | none => fun _ => none) (fun s => ?_)
  (Ac.bind (JP LP fun t ht => ?_) fun v => Ac.bind (FH LP (dV { dst, op := .append sz q x y, guard, root } (by simp [u5.opds]))) fun u => ?_)
 ·rw [As LP rfl]
  simp only [evalOp, Bw, LD, t4]
  cases A7 sz q (s.take LP x).1 ((s.take LP x).2.val LP y) with
  | none => rfl
  | some r => exact BN _ _ _
 ·subst ht; exact .inr (.inl (by simp [AG.foot, vD.tmp?]))
 ·cases A7 sz q v u with
  | none => exact Ac.fail
  | some r => exact DI (fun d hd => by subst hd; exact .inr (.inl (by simp [AG.foot]))) r
theorem Lm {d : Nat} (hd : d ∈ F.wb) (sl : BE) : Ac (fun s => some ((), { s with env := s.env.set d sl })) F := by
 have := KV (F := F) (d := d) (.inr (.inr hd)) sl (fun _ => true) (fun _ h => absurd hd h)
 simpa using this
theorem dY (C : AP) (g : Nat) {zs : List DV} {dst : Option Nat} {guard : Option (Nat × Bool)} {root : Option (Option Nat)} :
  C5 (EK LP C g { dst, op := .alloc zs, guard, root }) (AG.foot { dst, op := .alloc zs, guard, root }) := by
 cases dst with
 | none => exact A4 (h := fun _ => none) (fun s => by rw [As LP rfl]; rfl) Ac.fail
 | some d => exact A4 (h := fun s => some ((), { s with env := s.env.set d (.box g (zs.map .d)) })) (fun s => by rw [As LP rfl]; rfl) (Lm (by simp [AG.foot]) _)
theorem dj (C : AP) (g : Nat) {n : Nat} {dst : Option Nat} {guard : Option (Nat × Bool)} {root : Option (Option Nat)} :
  C5 (EK LP C g { dst, op := .mkmap n, guard, root }) (AG.foot { dst, op := .mkmap n, guard, root }) := by
 cases dst with
 | none => exact A4 (h := fun _ => none) (fun s => by rw [As LP rfl]; rfl) Ac.fail
 | some d => exact A4 (h := fun s => some ((), { s with env := s.env.set d (.mapo g n []) })) (fun s => by rw [As LP rfl]; rfl) (Lm (by simp [AG.foot]) _)
theorem lJ (C : AP) (g : Nat) {n : Nat} {x : vD} {dst : Option Nat} {guard : Option (Nat × Bool)} {root : Option (Option Nat)} :
  C5 (EK LP C g { dst, op := .box n x, guard, root }) (AG.foot { dst, op := .box n x, guard, root }) := by
 cases dst with
 | none => exact A4 (h := fun _ => none) (fun s => by rw [As LP rfl]; rfl) Ac.fail
 | some d =>
  refine A4 (h := Bw (t4 LP x) fun v => match v.known with
   | some cs => if cs.length = n ∧ cs.all LV.cellOk then (fun s => some ((), { s with env := s.env.set d (.box g cs) })) else fun _ => none
   | none => fun _ => none) (fun s => ?_) (Ac.bind (FH LP (dV { dst := some d, op := .box n x, guard, root } (by simp [u5.opds]))) fun v => ?_)
  ·rw [As LP rfl]
   simp only [evalOp, Bw, t4]
   cases (s.val LP x).known with
   | none => rfl
   | some cs => simp only; split <;> rfl
  ·cases v.known with
   | none => exact Ac.fail
   | some cs =>
    simp only
    split
    ·exact Lm (by simp [AG.foot]) _
    ·exact Ac.fail
theorem ZL (C : AP) (g : Nat) {i : Nat} {x : vD} {take : Bool} {dst : Option Nat} {guard : Option (Nat × Bool)} {root : Option (Option Nat)} :
  C5 (EK LP C g { dst, op := .extract i x take, guard, root }) (AG.foot { dst, op := .extract i x take, guard, root }) := by
 cases x with
 | con v => exact A4 (h := fun _ => none) (fun s => by rw [As LP rfl]; rfl) Ac.fail
 | glob v => exact A4 (h := fun _ => none) (fun s => by rw [As LP rfl]; rfl) Ac.fail
 | tmp t =>
  let F := AG.foot { dst, op := .extract i (.tmp t) take, guard, root }
  have hs : F.Sees (.tmp t) := dV { dst, op := .extract i (.tmp t) take, guard, root } (by simp [u5.opds])
  have hd : ∀ d, dst = some d → F.W d := fun d hd => .inr (.inl (by subst hd; cases take <;> simp [F, AG.foot]))
  refine A4 (h := Bw (fun s => some (s.env.get t, s)) fun sl => match sl with
   | some (.v (.d (.tup cs))) => match cs[i]? with
    | some y => RP dst (.d y)
    | none => fun _ => none
   | some (.v (.tup cs)) => match take, cs[i]? with
    | true, some (.hot z xs) => Bw (fun s => if uq (s.env.get t) = true then some ((), { s with env := s.env.set t (.v (.tup (cs.set i (.d (.slice z xs))))) }) else none) fun _ => RP dst (.hot z xs)
    | _, some y => RP dst y.copy
    | _, none => fun _ => none
   | _ => fun _ => none) (fun s => ?_) (Ac.bind ?_ fun sl => ?_)
  ·rw [As LP rfl]
   simp only [evalOp, Bw]
   cases hg : s.env.get t with
   | none => rfl
   | some sl =>
    cases sl with
    | box => rfl
    | mapo => rfl
    | v y =>
     cases y with
     | d y =>
      cases y with
      | tup cs => simp only; cases cs[i]? with
       | none => rfl
       | some y => exact BN _ _ _
      | _ => rfl
     | tup cs =>
      cases take with
      | false =>
       simp only
       cases cs[i]? with
       | none => rfl
       | some y => exact BN _ _ _
      | true =>
       simp only
       cases hc : cs[i]? with
       | none => rfl
       | some y =>
        cases y with
        | hot z xs =>
         simp only [Bw, hg, uq, if_true]
         exact BN _ _ _
        | d y => exact BN _ _ _
        | full a b => exact BN _ _ _
        | ptr a b c e => exact BN _ _ _
        | mref a b c => exact BN _ _ _
        | agg a => exact BN _ _ _
        | tup a => exact BN _ _ _
        | fn a b c => exact BN _ _ _
        | fptr a b => exact BN _ _ _
        | yield a b => exact BN _ _ _
     | _ => rfl
  ·exact EA (F := F) (f := fun s => some (s.env.get t)) fun s r h => by rw [h.here t (.inr (hs t rfl))]
  ·split
   ·split
    ·exact DI hd _
    ·exact Ac.fail
   ·split
    ·exact Ac.bind (KV (F := F) (d := t) (.inr (.inl (by simp [F, AG.foot, vD.tmp?]))) _ uq (fun _ _ => ⟨kw, trivial⟩)) fun _ => DI hd _
    ·exact DI hd _
    ·exact Ac.fail
   ·exact Ac.fail
end
end Go.Lf
