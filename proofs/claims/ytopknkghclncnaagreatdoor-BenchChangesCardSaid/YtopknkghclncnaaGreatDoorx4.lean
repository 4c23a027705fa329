/- A part of the proof. -/
import Derived.Test.YtopknkghclncnaaGreatDoorx3
set_option linter.all false
namespace Go.Lf
open Go
def Nx (LP : BA) (J : Jmp → St → Prop) (s : St) : Nat → List ll → Jmp ⊕ Ci → Prop
 | 0, ks, .inr c => Run LP ks c s J
 | 0, ks, .inl j => E8 LP ks j s J
 | n + 1, ks, .inr (.seq a b) => Nx LP J s n (.seq b :: ks) (.inr a)
 | n + 1, ks, .inr (.scope a) => Nx LP J s n ks (.inr a)
 | n + 1, ks, .inr .skip => Nx LP J s n ks (.inl .normal)
 | n + 1, ks, .inr (.exit i) => Nx LP J s n ks (.inl (.exit i))
 | n + 1, ks, .inr .ret => Nx LP J s n ks (.inl .ret)
 | _ + 1, ks, .inr c => Run LP ks c s J
 | _ + 1, [], .inl j => J j s
 | n + 1, .seq c :: ks, .inl .normal => Nx LP J s n ks (.inr c)
 | n + 1, .seq _ :: ks, .inl j => Nx LP J s n ks (.inl j)
 | n + 1, .loop c :: ks, .inl .normal => Nx LP J s n ks (.inr (.loop c))
 | n + 1, .loop _ :: ks, .inl j => Nx LP J s n ks (.inl j)
 | n + 1, .block i :: ks, .inl (.exit k) => match Nat.beq k i with
  | true => Nx LP J s n ks (.inl .normal)
  | false => Nx LP J s n ks (.inl (.exit k))
 | n + 1, .block _ :: ks, .inl j => Nx LP J s n ks (.inl j)
theorem GI {LP : BA} {J : Jmp → St → Prop} {s : St} : ∀ (n : Nat) (ks : List ll) (x : Jmp ⊕ Ci), Nx LP J s n ks x → match x with | .inr c => Run LP ks c s J | .inl j => E8 LP ks j s J
 | 0, ks, .inr c, h => h
 | 0, ks, .inl j, h => h
 | n + 1, ks, .inr c, h => by
  cases c with
  | seq a b => exact Run.seq (GI n _ _ h)
  | scope a => exact Run.scope (GI n _ _ h)
  | skip => exact Run.skip (GI n _ _ h)
  | exit i => exact Run.exit (GI n _ _ h)
  | ret => exact Run.ret (GI n _ _ h)
  | _ => exact h
 | n + 1, ks, .inl j, h => by
  cases ks with
  | nil => exact h
  | cons k ks =>
   cases k with
   | seq c => cases j with
    | normal => exact E8.seq (GI n _ _ h)
    | exit i => exact fp (GI n _ _ h)
    | ret => exact jE (GI n _ _ h)
   | loop c => cases j with
    | normal => exact E8.loop (GI n _ _ h)
    | exit i => exact bZ (GI n _ _ h)
    | ret => exact fB (GI n _ _ h)
   | block i => cases j with
    | normal => exact E8.block (GI n _ _ h)
    | exit k =>
     simp only [Nx] at h
     by_cases e : k = i
     ·subst e
      simp only [Nat.beq_refl] at h
      exact E8.block_exit (GI n _ _ h)
     ·have : Nat.beq k i = false := by
       cases hb : Nat.beq k i with
       | false => rfl
       | true => exact absurd (Nat.eq_of_beq_eq_true hb) e
      rw [this] at h
      exact E8.block_pass e (GI n _ _ h)
    | ret => exact E8.block_ret (GI n _ _ h)
def St.atc (s : St) (c n : Nat) : St := { s with ctr := c + n }
theorem xc (s : St) (c n t : Nat) : (s.atc c n).raw t = s.raw t := rfl
theorem vh (s : St) (c n t : Nat) : (s.atc c n).free t = s.free t := rfl
theorem yK (s : St) (c n : Nat) : (s.atc c n).low = s.low := rfl
theorem yc (s : St) (c n : Nat) : (s.atc c n).ctr = c + n := rfl
abbrev I3 := List (Nat × BM)
def klc (t : Nat) : Option BM → Option I3 → Option I3
 | some x, some l => some ((t, x) :: l)
 | _, _ => none
def kl : List Nat → St → Option I3
 | [], _ => some []
 | t :: ts, s => klc t (s.raw t) (kl ts s)
def knp : Option I3 → List Fr → Option (I3 × List Fr)
 | some l, low => some (l, low)
 | none, _ => none
def kn (keep : List Nat) : Option St → Option (I3 × List Fr)
 | some s => knp (kl keep s) s.low
 | none => none
theorem zZ (s : St) : kl [] s = some [] := rfl
theorem xi (t : Nat) (ts : List Nat) (s : St) : kl (t :: ts) s = klc t (s.raw t) (kl ts s) := rfl
theorem S7 (t : Nat) (x : BM) (l : I3) : klc t (some x) (some l) = some ((t, x) :: l) := rfl
theorem vS (l : I3) (low : List Fr) : knp (some l) low = some (l, low) := rfl
theorem xr (keep : List Nat) (s : St) : kn keep (some s) = knp (kl keep s) s.low := rfl
def lkd (s : St) (t : Nat) : I3 → Option BM
 | [] => s.raw t
 | (u, x) :: l => if u = t then some x else lkd s t l
def lk (d : I3) : List Nat → St → Option I3
 | [], _ => some []
 | t :: ts, s => klc t (lkd s t d) (lk d ts s)
theorem j4 (d : I3) (s : St) : lk d [] s = some [] := rfl
theorem X5 (d : I3) (t : Nat) (ts : List Nat) (s : St) : lk d (t :: ts) s = klc t (lkd s t d) (lk d ts s) := rfl
theorem Yw (s : St) (t : Nat) : lkd s t [] = s.raw t := rfl
theorem Rh (s : St) (t u : Nat) (x : BM) (l : I3) : lkd s t ((u, x) :: l) = if u = t then some x else lkd s t l := rfl
theorem xC : ∀ {ks : List Nat} {s : St} {l : I3}, kl ks s = some l → CH l s ∧ l.all (fun p => ks.contains p.1) = true
 | [], s, l, h => by cases h; exact ⟨trivial, rfl⟩
 | t :: ts, s, l, h => by
  simp only [kl] at h
  cases hx : s.raw t with
  | none => rw [hx] at h; cases h
  | some x =>
   rw [hx] at h
   cases hl : kl ts s with
   | none => rw [hl] at h; cases h
   | some l' =>
    rw [hl] at h; cases h
    obtain ⟨h1, h2⟩ := xC hl
    refine ⟨⟨hx, h1⟩, ?_⟩
    simp only [List.all_cons, List.contains_cons, beq_self_eq_true, Bool.true_or, Bool.true_and]
    rw [List.all_eq_true] at h2 ⊢
    intro p hp
    rw [h2 p hp, Bool.or_true]
theorem gd {keep : List Nat} {LP : BA} {C : AV} {g : Nat} {o : AI} {r : List AI} {s : St} {w b : Bool} {X : Option (I3 × List Fr)} (h1 : b = true → kn keep (Ud LP C g o r s w (.d (.bool true))) = X)
  (h0 : b = false → kn keep (Ud LP C g o r s w (.d (.bool false))) = X) : kn keep (Ud LP C g o r s w (.d (.bool b))) = X := by
 cases b
 ·exact h0 rfl
 ·exact h1 rfl
theorem gdN {keep : List Nat} {LP : BA} {C : AV} {g : Nat} {o : AI} {r : List AI} {s : St} {w b : Bool} {X : Option (I3 × List Fr)} (h1 : b = true → kn keep (Ud LP C g o r s w (.d (.bool (!b)))) = X)
  (h0 : b = false → kn keep (Ud LP C g o r s w (.d (.bool (!b)))) = X) : kn keep (Ud LP C g o r s w (.d (.bool (!b)))) = X := by
 cases b
 ·exact h0 rfl
 ·exact h1 rfl
theorem ABe (a b : Bool) : (a != b) = !(a == b) := rfl
theorem yV {α : Type} [Enc α] (x : Sl α) : x.lv.copy = x.spent.lv := by cases x <;> rfl
def Kq {α : Type} (o : Option α) (x : α) : Prop := o = some x
theorem kq {α : Type} {o : Option α} {x : α} (h : o = some x) : Kq o x := h
theorem bnk {α β : Type} {o : Option α} {f : α → Option β} {b : β} (h : Kq (o.bind f) b) : ∃ a, o = some a ∧ Kq (f a) b := bnd h
theorem oK {α : Type} {a b : α} (h : Kq (some a) b) : a = b := Option.some.inj h
theorem ABh {α : Type} {c : Bool} {A B : Option α} {x : α} (k : (if c = true then A else B) = some x) : (c = true ∧ A = some x) ∨ (c = false ∧ B = some x) := by
 cases c
 ·exact .inr ⟨rfl, by simpa using k⟩
 ·exact .inl ⟨rfl, by simpa using k⟩
theorem gb {α β : Type} {A : Option α} {f : α → Option β} {b : β} {G : Prop} (h : ∀ v, A = some v → f v = some b → G) (q : A.bind f = some b) : G := by
 obtain ⟨v, h1, h2⟩ := bnd q
 exact h v h1 h2
theorem gi {β : Type} {c : Bool} {A B : Option β} {b : β} {G : Prop} (h1 : c = true → A = some b → G) (h0 : c = false → B = some b → G) (q : (if c = true then A else B) = some b) : G := by
 rcases ABh q with ⟨a, q⟩ | ⟨a, q⟩
 ·exact h1 a q
 ·exact h0 a q
theorem oI {α : Type} {a b : α} (h : some a = some b) : a = b := Option.some.inj h
def ofO {α β : Type} (o : Option α) (F : α → β) (d : Option β) : Option β := match o with
 | some x => some (F x)
 | none => d
theorem vQ {α β : Type} (x : α) (F : α → β) (d : Option β) : ofO (some x) F d = some (F x) := rfl
theorem uq {α β : Type} {o : Option α} {F : α → β} {d : Option β} (h : ∀ x, o = some x → d = some (F x)) : d = ofO o F d := by
 cases o with
 | none => rfl
 | some x => exact h x rfl
def zl (sz : Nat) (x i : LV) : Option LV := t8 sz x i
theorem y4 {α : Type} [Enc α] (x : Sl α) (i : Int) (sz : Nat) (hz : Enc.n α = sz) : t8 sz (.d (Enc.enc x)) (.d (.int i)) = ofO (x.ix i) (fun a => .d (.fptr (Enc.cells a) 0)) (zl sz (.d (Enc.enc x)) (.d (.int i))) :=
 uq (d := t8 sz (.d (Enc.enc x)) (.d (.int i))) fun _ h => sf x h hz
theorem xZ {α : Type} [Enc α] (x : Sl α) (i : Int) (sz : Nat) (hz : Enc.n α = sz) : t8 sz x.lv (.d (.int i)) = ofO (x.ix i) (fun a => .d (.fptr (Enc.cells a) 0)) (zl sz x.lv (.d (.int i))) :=
 uq (d := t8 sz x.lv (.d (.int i))) fun _ h => xa x h hz
noncomputable def zO (LP : BA) (n : Nat) (ds : List DV) : Option LV := Oo (om LP) n ds
@[reducible] def Cq {α : Type} (LP : BA) (n : Nat) (ds : List DV) (o : Option α) (E : α → LV) : Prop := Oo (om LP) n ds = ofO o E (zO LP n ds)
theorem Cq.mk {α : Type} {LP : BA} {n : Nat} {ds : List DV} {o : Option α} {E : α → DV} (h : ∀ {r}, o = some r → Fin LP n ds (E r)) : Cq LP n ds o fun x => .d (E x) :=
 uq (d := Oo (om LP) n ds) fun _ k => (h k).call
theorem AAp : Enc.n Int = 1 := rfl
theorem zf : Enc.n Bool = 1 := rfl
theorem ABc {α : Type} [Enc α] : Enc.n (Sl α) = 1 := rfl
theorem ABi : Enc.n Fv = 1 := rfl
theorem ABd {α : Type} [Enc α] {n : Nat} : Enc.n (Mp n α) = 1 := rfl
theorem ABa {α : Type} [Enc α] {n : Nat} : Enc.n (Ar n α) = n * Enc.n α := rfl
def rt := And.intro @rs <| And.intro AAp <| And.intro zf <| And.intro @ABc <| And.intro ABi <| And.intro @ABd <| And.intro @ABa <| And.intro @xc <| And.intro @vh <| And.intro @yK <| And.intro @yc <| And.intro @zZ <| And.intro @xi <| And.intro @S7 <| And.intro @vS <| And.intro @xr <| And.intro @j4 <| And.intro @X5 <| And.intro @Yw <|
 And.intro @Rh <| And.intro @y4 <| And.intro @xZ <| And.intro @vQ <| And.intro @List.length_cons.{0} <| And.intro @List.length_nil.{0} <| And.intro @ce <| And.intro @i5 <| And.intro @ne_eq.{1} <| And.intro not_false_eq_true <| And.intro @wV <| And.intro @kx <| And.intro @H9 <| And.intro @yV <| And.intro ABe <| And.intro @DT <| And.intro @Bh <| And.intro @SG <| And.intro @KL <| And.intro @KQ @wW
section
variable {LP : BA} {ks : List ll} {J : Jmp → St → Prop} {s : St} {B : List Nat} {ops : List AI} {keep : List Nat} {low : List Fr} {l : Nat → I3}
theorem AAy (hl : s.low = low) (hf : NoB B s) (hB : ops.all (opB B) = true) (h : ∀ c, kn keep (Lf.evalOps LP (om LP) c ops (s.atc c ops.length)) = some (l c, low))
  (h' : ∀ c s', BG (l c) s' → s'.low = low → NoB B s' → Nx LP J s' 60 ks (.inl .normal)) : Run LP ks (.ops ops keep) s J := by
 have h0 := h s.ctr
 cases he : Lf.evalOps LP (om LP) s.ctr ops (s.atc s.ctr ops.length) with
 | none => rw [he] at h0; cases h0
 | some s1 =>
  rw [he] at h0
  simp only [kn] at h0
  cases hk : kl keep s1 with
  | none => rw [hk] at h0; cases h0
  | some l1 =>
   rw [hk] at h0
   simp only [knp, Option.some.injEq, Prod.mk.injEq] at h0
   obtain ⟨rfl, h2⟩ := h0
   obtain ⟨h3, h4⟩ := xC hk
   exact ly (B := B) (l s.ctr) hl hf hB h4 ⟨s1, he, h3, h2⟩ fun s' a b c => GI 60 ks (.inl .normal) (h' s.ctr s' a b c)
theorem nZ (l : I3) (hl : s.low = low) (hf : NoB B s) (h : ∃ s1, Lf.evalOps LP (om LP) s.ctr ops (s.tick ops.length) = some s1 ∧ CH l s1 ∧ s1.low = low)
  (h' : ∀ s', BG l s' → s'.low = low → NoB B s' → Nx LP J s' 60 ks (.inl .normal)) (hB : ops.all (opB B) = true := by rfl) (hk : l.all (fun p => keep.contains p.1) = true := by rfl) : Run LP ks (.ops ops keep) s J :=
 ly l hl hf hB hk h fun s' a b c => GI 60 ks (.inl .normal) (h' s' a b c)
theorem regS {Q : List Fr → Prop} (l : I3) (hl : s.low = low) (hf : NoB B s) (h : ∃ s1, Lf.evalOps LP (om LP) s.ctr ops (s.tick ops.length) = some s1 ∧ CH l s1 ∧ Q s1.low)
  (h' : ∀ s', BG l s' → Q s'.low → NoB B s' → Nx LP J s' 60 ks (.inl .normal)) (hB : ops.all (opB B) = true := by rfl) (hk : l.all (fun p => keep.contains p.1) = true := by rfl) : Run LP ks (.ops ops keep) s J :=
 wM l hl hf hB hk h fun s' a b c => GI 60 ks (.inl .normal) (h' s' a b c)
theorem ABo {t : Nat} {c : Bool} {a b : Ci} (hr : s.raw t = some (.v (.d (.bool c)))) (hc : c = true) (h : Nx LP J s 60 ks (.inr a)) : Run LP ks (.cond (.tmp t) a b) s J := mj hr hc (GI 60 ks (.inr a) h)
theorem ABn {t : Nat} {c : Bool} {a b : Ci} (hr : s.raw t = some (.v (.d (.bool c)))) (hc : c = false) (h : Nx LP J s 60 ks (.inr b)) : Run LP ks (.cond (.tmp t) a b) s J := mK hr hc (GI 60 ks (.inr b) h)
theorem Bn {t : Nat} {c : Bool} {a b : Ci} {α : Type} {A B : Option α} {x : α} (r : s.raw t = some (.v (.d (.bool c)))) (k : Kq (if c = true then A else B) x)
  (h1 : c = true → Kq A x → Nx LP J s 60 ks (.inr a)) (h2 : c = false → Kq B x → Nx LP J s 60 ks (.inr b)) : Run LP ks (.cond (.tmp t) a b) s J :=
 yQ r k (fun c k => GI 60 ks (.inr a) (h1 c k)) fun c k => GI 60 ks (.inr b) (h2 c k)
theorem JV {t : Nat} {c : Bool} {a b : Ci} {α : Type} {A B : Option α} {x : α} (r : s.raw t = some (.v (.d (.bool (!c))))) (k : Kq (if c = true then A else B) x)
  (h1 : c = true → Kq A x → Nx LP J s 60 ks (.inr b)) (h2 : c = false → Kq B x → Nx LP J s 60 ks (.inr a)) : Run LP ks (.cond (.tmp t) a b) s J := by
 cases c with
 | true => exact mK r rfl (GI 60 ks (.inr b) (h1 rfl (by simpa [Kq] using k)))
 | false => exact mj r rfl (GI 60 ks (.inr a) (h2 rfl (by simpa [Kq] using k)))
theorem ABU {c : Ci} {Q : Jmp → St → Prop} (h : Nx LP Q s 60 [] (.inr c)) (h' : ∀ j s', Q j s' → Nx LP J s' 60 ks (.inl j)) : Run LP ks c s J :=
 Run.sub (GI 60 [] (.inr c) h) fun j s' q => GI 60 ks (.inl j) (h' j s' q)
theorem blk {i : Nat} {c : Ci} (h : Nx LP J s 60 (.block i :: ks) (.inr c)) : Run LP ks (.block i c) s J := Run.block (GI 60 (.block i :: ks) (.inr c) h)
theorem Nx.run {c : Ci} (h : Nx LP J s 60 [] (.inr c)) : Run LP [] c s J := GI 60 [] (.inr c) h
theorem AY {c : Ci} {σ ρ : Type} {f : σ → Option (σ ⊕ ρ)} {E : σ → St → Prop} {Q : ρ → Jmp → St → Prop} {r : ρ} {x : σ}
  (hl : Loop f x = some r) (hs : ∀ x s out, E x s → Kq (f x) out → Nx LP (AAI E Q out) s 60 [] (.inr c)) (he : E x s) (h' : ∀ j s', Q r j s' → Nx LP J s' 60 ks (.inl j)) : Run LP ks (.loop c) s J :=
 rS (fun x s out a b => GI 60 [] (.inr c) (hs x s out a b)) he hl fun j s' q => GI 60 ks (.inl j) (h' j s' q)
end
theorem qq {LP : BA} {ks : List ll} {J : Jmp → St → Prop} {s : St} {j : Jmp} (h : Nx LP J s 60 ks (.inl j)) : E8 LP ks j s J := GI 60 ks (.inl j) h
end Go.Lf
