/- A part of the proof. -/
import Derived.Test.YtohgomfnigdaoaaDoory22
set_option linter.all false
set_option maxRecDepth 100000
namespace Go.Lf
open Go
structure Ap {α : Type} (a b : Option α) : Prop where
 of : ∀ r, a = some r → b = some r
theorem Ap.refl {α : Type} (a : Option α) : Ap a a := ⟨fun _ h => h⟩
theorem Xf {α : Type} (b : Option α) : Ap none b := ⟨fun _ h => by cases h⟩
theorem Ap.bind {α β : Type} {a b : Option α} {f g : α → Option β} (h : Ap a b) (k : ∀ x, Ap (f x) (g x)) : Ap (a.bind f) (b.bind g) := by
 constructor
 intro r hr
 cases a with
 | none => cases hr
 | some x => rw [h.of x rfl]; exact (k x).of r hr
theorem Ap.ite {α : Type} {c : Bool} {a b a' b' : Option α} (h : Ap a b) (k : Ap a' b') : Ap (if c = true then a else a') (if c = true then b else b') := by
 split
 ·exact h
 ·exact k
def Ff {σ ρ : Type} (f : σ → Option (σ ⊕ ρ)) (x : σ) : Option ρ := turns f 1000000 x
theorem Ap.turns {σ ρ : Type} {f g : σ → Option (σ ⊕ ρ)} (h : ∀ x, Ap (f x) (g x)) : ∀ (n : Nat) (x : σ), Ap (turns f n x) (turns g n x)
 | 0, x => Xf _
 | n + 1, x => by
  constructor
  intro r hr
  simp only [Go.Lf.turns] at hr ⊢
  cases hf : f x with
  | none => rw [hf] at hr; cases hr
  | some y =>
   rw [hf] at hr
   rw [(h x).of y hf]
   cases y with
   | inl z => exact (Ap.turns h n z).of r hr
   | inr z => exact hr
theorem Ap.loop {σ ρ : Type} {f g : σ → Option (σ ⊕ ρ)} {x : σ} (h : ∀ x, Ap (f x) (g x)) : Ap (Ff f x) (Loop g x) := ⟨fun r hr => PH.mpr ⟨_, (Ap.turns h _ x).of r hr⟩⟩
theorem Ap.onL {α τ X : Type} {F G : α → τ → Option (Bool × (τ ⊕ X))} (h : ∀ x t, Ap (F x t) (G x t)) (x : α) (st : τ ⊕ X) : Ap (onL F x st) (Go.Lf.onL G x st) := by
 cases st with
 | inl t => exact h x t
 | inr _ => exact Xf _
noncomputable def HV (a0 : VoiceBook) : Option (Int) := Option.bind (Ff (EO a0) (((Aa a0.Boys.len 1 4) && ((Aa a0.Weeks 1 6) && (decide (a0.Trials.len ≤ 6)))), 0)) (fun y9 => Option.bind (Ff (EL a0) (y9, 0)) (fun y33 => if y33 then some (0) else some (20)))
theorem M9 (a0 : VoiceBook) : Ap (HV a0) (Dv a0) := by
 unfold HV Dv
 repeat' (first | with_reducible exact Ap.refl _ | refine Ap.loop ?_ | refine Ap.bind ?_ ?_ | refine Ap.ite ?_ ?_ | apply Ap.onL | intro _ | split)
noncomputable def K1 (a0 : (Sl Int)) (a1 : Int) : Option (Int) := Option.bind (Ff (BF a0 a1) 0) (fun o => match o with | .inl w4 => some (w4) | .inr _ => some ((-1)))
theorem ZH (a0 : (Sl Int)) (a1 : Int) : Ap (K1 a0 a1) (Fp a0 a1) := by
 unfold K1 Fp
 repeat' (first | with_reducible exact Ap.refl _ | refine Ap.loop ?_ | refine Ap.bind ?_ ?_ | refine Ap.ite ?_ ?_ | apply Ap.onL | intro _ | split)
noncomputable def GF (a0 : (Sl Int)) (a1 : Int) : Option (Bool) := Option.bind (K1 a0 a1) fun v2 => some ((decide (0 ≤ v2)))
theorem K4 (a0 : (Sl Int)) (a1 : Int) : Ap (GF a0 a1) (B2 a0 a1) := by
 unfold GF B2
 repeat' (first | with_reducible exact Ap.refl _ | apply ZH | refine Ap.loop ?_ | refine Ap.bind ?_ ?_ | refine Ap.ite ?_ ?_ | apply Ap.onL | intro _ | split)
noncomputable def HQ (a0 : Int) (a1 : (Sl Int)) : Option (Int) := Option.bind (Ff (EK a1) (a0, 0)) (fun y5 => some (y5))
theorem NL (a0 : Int) (a1 : (Sl Int)) : Ap (HQ a0 a1) (Ey a0 a1) := by
 unfold HQ Ey
 repeat' (first | with_reducible exact Ap.refl _ | refine Ap.loop ?_ | refine Ap.bind ?_ ?_ | refine Ap.ite ?_ ?_ | apply Ap.onL | intro _ | split)
noncomputable def HJ (a0 : AA) (a1 : Int) (a2 : (Ar 5 Int)) (a3 : Int) : Option (Int) := Option.bind (a2.ix 3) fun v3 => Option.bind (HQ a3 (Sl.cold [v3] : Sl Int)) fun v5 => Option.bind (a2.ix 1) fun v10 => Option.bind (a2.ix 2) fun v12 => Option.bind (a0.VoiceBook.Boys.ix a1) fun v14 => some ((W ((W (v10 + (W (v5 * v12)))) - (W ((W (a3 - v5)) * v14.Loss)))))
theorem RX (a0 : AA) (a1 : Int) (a2 : (Ar 5 Int)) (a3 : Int) : Ap (HJ a0 a1 a2 a3) (E7 a0 a1 a2 a3) := by
 unfold HJ E7
 repeat' (first | with_reducible exact Ap.refl _ | apply NL | refine Ap.loop ?_ | refine Ap.bind ?_ ?_ | refine Ap.ite ?_ ?_ | apply Ap.onL | intro _ | split)
noncomputable def Hh (a0 : AA) (a1 : Int) (a2 : (Ar 5 Int)) (a3 : Int) (a4 : Int) : Option (Bool) := Option.bind (if (decide (Bc.key a2 = Bc.key (⟨[(-1), (-1), (-1), (-1), (-1)], rfl⟩ : (Ar 5 Int)))) then some (false) else Option.bind (a2.ix 4) fun v4 => if (decide (a3 < v4)) then Option.bind (a2.ix 0) fun v7 => Option.bind (HJ a0 a1 a2 a3) fun v9 => some ((Aa a4 v7 v9)) else some (false) : Option (Bool)) fun o12 => some (o12)
theorem SY (a0 : AA) (a1 : Int) (a2 : (Ar 5 Int)) (a3 : Int) (a4 : Int) : Ap (Hh a0 a1 a2 a3 a4) (D5 a0 a1 a2 a3 a4) := by
 unfold Hh D5
 repeat' (first | with_reducible exact Ap.refl _ | apply RX | refine Ap.loop ?_ | refine Ap.bind ?_ ?_ | refine Ap.ite ?_ ?_ | apply Ap.onL | intro _ | split)
noncomputable def Eo (a0 : AA) (a1 : Int) (a2 : (Ar 5 Int)) (a3 : (Sl Int)) (x5 : Int) : Option (Int ⊕ ((Bool) ⊕ (Unit))) := if (decide (x5 < a0.VoiceBook.Trials.len)) then Option.bind (a0.VoiceBook.Trials.ix x5) fun v11 => Option.bind (if (decide (v11.Boy = a1)) then Option.bind (GF a3 x5) fun v15 => if v15 then some (false) else Option.bind (Hh a0 a1 a2 v11.Week v11.Note) fun v18 => some ((v18 != (decide (v11.Sang = 1)))) else some (false) : Option (Bool)) fun o21 => if o21 then some (.inr (.inl false)) else some (.inl ((W (x5 + 1)))) else some (.inr (.inr ()))
theorem NP (a0 : AA) (a1 : Int) (a2 : (Ar 5 Int)) (a3 : (Sl Int)) (x5 : Int) : Ap (Eo a0 a1 a2 a3 x5) (BK a0 a1 a2 a3 x5) := by
 unfold Eo BK
 repeat' (first | with_reducible exact Ap.refl _ | apply K4 | apply SY | refine Ap.loop ?_ | refine Ap.bind ?_ ?_ | refine Ap.ite ?_ ?_ | apply Ap.onL | intro _ | split)
noncomputable def GX (a0 : AA) (a1 : Int) (a2 : (Ar 5 Int)) (a3 : (Sl Int)) : Option (Bool) := Option.bind (Ff (Eo a0 a1 a2 a3) 0) (fun o => match o with | .inl w6 => some (w6) | .inr _ => some (true))
theorem Pe (a0 : AA) (a1 : Int) (a2 : (Ar 5 Int)) (a3 : (Sl Int)) : Ap (GX a0 a1 a2 a3) (Bo a0 a1 a2 a3) := by
 unfold GX Bo
 repeat' (first | with_reducible exact Ap.refl _ | apply NP | refine Ap.loop ?_ | refine Ap.bind ?_ ?_ | refine Ap.ite ?_ ?_ | apply Ap.onL | intro _ | split)
noncomputable def C7 {σ : Type} (rec_ : (Ar 5 Int) → Int → (Ar 5 BS) → AA → Int → (Sl Int) → σ → Option (Bool × σ)) (yf : (Ar 5 Int) → σ → Option (Bool × σ)) (a1 : Int) (a2x : (Ar 5 BS)) (a4xf0 : AA) (a5 : Int) (a6 : (Sl Int)) (v2 : BS) : σ × (Ar 5 Int) × Int → Option ((σ × (Ar 5 Int) × Int) ⊕ ((Bool × σ) ⊕ (σ × (Ar 5 Int))))
 | (x9, x10, x11) => if (decide (x11 < (W ((W (v2.High - v2.Low)) + 1)))) then Option.bind (x10.ix a1) fun v20 => if (decide (a1 < 4)) then Option.bind (rec_ (x10.put a1 (W (v2.Low + x11))) (W (a1 + 1)) a2x a4xf0 a5 a6 x9) fun (v27, t28) => if v27 then some (.inl (t28, (x10.put a1 (W (v2.Low + x11))), (W (x11 + 1)))) else some (.inr (.inl (false, t28))) else Option.bind (GX a4xf0 a5 (x10.put a1 (W (v2.Low + x11))) a6) fun v34 => if v34 then Option.bind (yf (x10.put a1 (W (v2.Low + x11))) x9) fun (v42, t43) => if v42 then some (.inl (t43, (x10.put a1 (W (v2.Low + x11))), (W (x11 + 1)))) else some (.inr (.inl (false, t43))) else some (.inl (x9, (x10.put a1 (W (v2.Low + x11))), (W (x11 + 1)))) else some (.inr (.inr (x9, x10)))
theorem Ii {σ : Type} {rec_q rec_ : (Ar 5 Int) → Int → (Ar 5 BS) → AA → Int → (Sl Int) → σ → Option (Bool × σ)} (hrec_ : ∀ y0 y1 y2 y3 y4 y5 y6, Ap (rec_q y0 y1 y2 y3 y4 y5 y6) (rec_ y0 y1 y2 y3 y4 y5 y6)) {yfq yf : (Ar 5 Int) → σ → Option (Bool × σ)} (hyf : ∀ y0 y1, Ap (yfq y0 y1) (yf y0 y1)) (a1 : Int) (a2x : (Ar 5 BS)) (a4xf0 : AA) (a5 : Int) (a6 : (Sl Int)) (v2 : BS) : ∀ z0, Ap (C7 rec_q yfq a1 a2x a4xf0 a5 a6 v2 z0) (As rec_ yf a1 a2x a4xf0 a5 a6 v2 z0) := by
 rintro ⟨x9, x10, x11⟩
 unfold C7 As
 dsimp only
 repeat' (first | with_reducible exact Ap.refl _ | apply hrec_ | apply hyf | apply Pe | refine Ap.loop ?_ | refine Ap.bind ?_ ?_ | refine Ap.ite ?_ ?_ | apply Ap.onL | intro _ | split)
noncomputable def CM {σ : Type} (yf : (Ar 5 Int) → σ → Option (Bool × σ)) : Nat → (Ar 5 Int) → Int → (Ar 5 BS) → AA → Int → (Sl Int) → σ → Option (Bool × σ)
 | 0, _, _, _, _, _, _, _ => none
 | n + 1, a0, a1, a2x, a4xf0, a5, a6, st => Option.bind (a2x.ix a1) fun v2 => Option.bind (Ff (C7 (CM yf n) yf a1 a2x a4xf0 a5 a6 v2) (st, a0, 0)) (fun o => match o with | .inl w12 => some (w12) | .inr (y13, y14) => some ((true, y13)))
theorem J9 {σ : Type} {yfq yf : (Ar 5 Int) → σ → Option (Bool × σ)} (hyf : ∀ y0 y1, Ap (yfq y0 y1) (yf y0 y1)) : ∀ z0 z1 z2 z3 z4 z5 z6 z7, Ap (CM yfq z0 z1 z2 z3 z4 z5 z6 z7) (Ad yf z0 z1 z2 z3 z4 z5 z6 z7) := by
 intro z0
 induction z0 with
 | zero => intros; exact Xf _
 | succ n ih =>
  intros
  unfold CM Ad
  repeat' (first | with_reducible exact Ap.refl _ | apply hyf | apply ih | apply Ii | refine Ap.loop ?_ | refine Ap.bind ?_ ?_ | refine Ap.ite ?_ ?_ | apply Ap.onL | intro _ | split)
noncomputable def Eg {σ : Type} (yf : (Ar 5 Int) → σ → Option (Bool × σ)) (a1 : AA) (a2 : Int) (a3 : (Sl Int)) (st : σ) : Option (Unit × σ) := Option.bind (a1.VoiceBook.Boys.ix a2) fun v6 => Option.bind (CM yf 64 (⟨[(-1), (-1), (-1), (-1), (-1)], rfl⟩ : (Ar 5 Int)) 0 (⟨[v6.Low, v6.High, v6.Gain, v6.Turn, v6.Break], rfl⟩ : (Ar 5 BS)) a1 a2 a3 st) fun (v14, t15) => some (((), t15))
theorem LJ {σ : Type} {yfq yf : (Ar 5 Int) → σ → Option (Bool × σ)} (hyf : ∀ y0 y1, Ap (yfq y0 y1) (yf y0 y1)) (a1 : AA) (a2 : Int) (a3 : (Sl Int)) (st : σ) : Ap (Eg yfq a1 a2 a3 st) (BU yf a1 a2 a3 st) := by
 unfold Eg BU
 repeat' (first | with_reducible exact Ap.refl _ | apply hyf | apply J9 | refine Ap.loop ?_ | refine Ap.bind ?_ ?_ | refine Ap.ite ?_ ?_ | apply Ap.onL | intro _ | split)
noncomputable def IC (a0 : VoiceBook) (x11 : Int) : ((Ar 5 Int)) → ((Sl (Ar 5 Int)) × (List (List Int × (Sl (Ar 5 Int))))) → Option (Bool × (((Sl (Ar 5 Int)) × (List (List Int × (Sl (Ar 5 Int))))) ⊕ (Unit)))
 | a24, (x25, x26) => Option.bind (Sl.app 40 x25 ([a24])) fun v28 => Option.bind (a24.ix 4) fun v30 => Option.bind (HQ a0.Weeks (Sl.cold [v30] : Sl Int)) fun v32 => Option.bind (Ff (C5 x11 a24 v32) (x26, 0)) (fun y45 => some (true, .inl (v28, y45)))
theorem Tf (a0 : VoiceBook) (x11 : Int) : ∀ z0 z1, Ap (IC a0 x11 z0 z1) (Dt a0 x11 z0 z1) := by
 rintro a24 ⟨x25, x26⟩
 unfold IC Dt
 dsimp only
 repeat' (first | with_reducible exact Ap.refl _ | apply NL | refine Ap.loop ?_ | refine Ap.bind ?_ ?_ | refine Ap.ite ?_ ?_ | apply Ap.onL | intro _ | split)
noncomputable def IA (a0 : VoiceBook) (a1 : (Sl Int)) : AA × (List (List Int × (Sl (Ar 5 Int)))) × Int → Option ((AA × (List (List Int × (Sl (Ar 5 Int)))) × Int) ⊕ (AA × (List (List Int × (Sl (Ar 5 Int))))))
 | (x9, x10, x11) => if (decide (x11 < a0.Boys.len)) then Option.bind (Eg (onL (IC a0 x11)) x9 x11 a1 (.inl ((Sl.nil : (Sl (Ar 5 Int))), x10))) (fun o => match o with | (_, .inl (y55, y56)) => Option.bind (Sl.app 24 x9.truths.unf ([y55])) fun v57 => some (.inl ((AA.mk x9.VoiceBook v57 x9.whole), y56, (W (x11 + 1)))) | (_, .inr _) => none) else some (.inr (x9, x10))
theorem Tc (a0 : VoiceBook) (a1 : (Sl Int)) : ∀ z0, Ap (IA a0 a1 z0) (C9 a0 a1 z0) := by
 rintro ⟨x9, x10, x11⟩
 unfold IA C9
 dsimp only
 repeat' (first | with_reducible exact Ap.refl _ | apply LJ | apply Tf | refine Ap.loop ?_ | refine Ap.bind ?_ ?_ | refine Ap.ite ?_ ?_ | apply Ap.onL | intro _ | split)
noncomputable def IQ (a0 : VoiceBook) (a1 : (Sl Int)) : Option (AA) := Option.bind (Ff (IA a0 a1) ((AA.mk a0 (Sl.nil : (Sl (Sl (Ar 5 Int)))) (Mp.nil : (Mp 2 (Sl (Ar 5 Int))))), ([] : List (List Int × (Sl (Ar 5 Int)))), 0)) (fun (y12, y13) => some ((AA.mk y12.VoiceBook y12.truths (Mp.mk y13))))
theorem P2 (a0 : VoiceBook) (a1 : (Sl Int)) : Ap (IQ a0 a1) (Ei a0 a1) := by
 unfold IQ Ei
 repeat' (first | with_reducible exact Ap.refl _ | apply Tc | refine Ap.loop ?_ | refine Ap.bind ?_ ?_ | refine Ap.ite ?_ ?_ | apply Ap.onL | intro _ | split)
noncomputable def FH (a0 : (Sl (Sl (Ar 5 Int)))) : Option (Int) := Option.bind (Ff (BL a0) 0) (fun o => match o with | .inl w4 => some (w4) | .inr _ => some ((-1)))
theorem Ni (a0 : (Sl (Sl (Ar 5 Int)))) : Ap (FH a0) (CS a0) := by
 unfold FH CS
 repeat' (first | with_reducible exact Ap.refl _ | refine Ap.loop ?_ | refine Ap.bind ?_ ?_ | refine Ap.ite ?_ ?_ | apply Ap.onL | intro _ | split)
noncomputable def EQ (a0 : (Sl (Sl (Ar 5 Int)))) : Option (Bool) := Option.bind (FH a0) fun v2 => some ((decide (0 ≤ v2)))
theorem Ky (a0 : (Sl (Sl (Ar 5 Int)))) : Ap (EQ a0) (Bf a0) := by
 unfold EQ Bf
 repeat' (first | with_reducible exact Ap.refl _ | apply Ni | refine Ap.loop ?_ | refine Ap.bind ?_ ?_ | refine Ap.ite ?_ ?_ | apply Ap.onL | intro _ | split)
noncomputable def Ep (a0 : AA) : Option (Bool) := Option.bind (EQ a0.truths) fun v2 => some ((!v2))
theorem Jv (a0 : AA) : Ap (Ep a0) (CE a0) := by
 unfold Ep CE
 repeat' (first | with_reducible exact Ap.refl _ | apply Ky | refine Ap.loop ?_ | refine Ap.bind ?_ ?_ | refine Ap.ite ?_ ?_ | apply Ap.onL | intro _ | split)
noncomputable def M5 (a0 : VoiceBook) : Option (Bool × Int) := Option.bind (HV a0) fun v2 => if (decide (v2 = 0)) then Option.bind (IQ a0 (Sl.nil : (Sl Int))) fun v7 => Option.bind (Ep v7) fun v9 => some ((v9, 0)) else some ((false, v2))
theorem cr (a0 : VoiceBook) : Ap (M5 a0) (F2 a0) := by
 unfold M5 F2
 repeat' (first | with_reducible exact Ap.refl _ | apply M9 | apply P2 | apply Jv | refine Ap.loop ?_ | refine Ap.bind ?_ ?_ | refine Ap.ite ?_ ?_ | apply Ap.onL | intro _ | split)
noncomputable def Rf : Option (VoiceBook) := Option.bind (Ff IS ((VoiceBook.mk (Sl.nil : (Sl AL)) 2 (Sl.nil : (Sl AI))), 0)) (fun y8 => some (y8))
theorem dN : Ap (Rf ) (E1 ) := by
 unfold Rf E1
 repeat' (first | with_reducible exact Ap.refl _ | refine Ap.loop ?_ | refine Ap.bind ?_ ?_ | refine Ap.ite ?_ ?_ | apply Ap.onL | intro _ | split)
noncomputable def D9 (a0 : VoiceBook) (a1 : Bool) : Option (AA × Int) := Option.bind (HV a0) fun v3 => if (decide (v3 = 0)) then if a1 then Option.bind (IQ a0 (Sl.nil : (Sl Int))) fun v10 => Option.bind (Ep v10) fun v14 => if v14 then some ((v10, 0)) else some ((v10, 22)) else some (((AA.mk (VoiceBook.mk (Sl.nil : (Sl AL)) 0 (Sl.nil : (Sl AI))) (Sl.nil : (Sl (Sl (Ar 5 Int)))) (Mp.nil : (Mp 2 (Sl (Ar 5 Int))))), 21)) else some (((AA.mk (VoiceBook.mk (Sl.nil : (Sl AL)) 0 (Sl.nil : (Sl AI))) (Sl.nil : (Sl (Sl (Ar 5 Int)))) (Mp.nil : (Mp 2 (Sl (Ar 5 Int))))), v3))
theorem RN (a0 : VoiceBook) (a1 : Bool) : Ap (D9 a0 a1) (Bi a0 a1) := by
 unfold D9 Bi
 repeat' (first | with_reducible exact Ap.refl _ | apply M9 | apply P2 | apply Jv | refine Ap.loop ?_ | refine Ap.bind ?_ ?_ | refine Ap.ite ?_ ?_ | apply Ap.onL | intro _ | split)
noncomputable def I0 (a0 : AA) (a1 : Int) (a2 : (Ar 5 Int)) (a3 : Int) : Option (Int) := Option.bind (a2.ix 3) fun v2 => Option.bind (HQ a3 (Sl.cold [v2] : Sl Int)) fun v4 => Option.bind (a2.ix 1) fun v9 => Option.bind (a2.ix 2) fun v11 => Option.bind (a0.VoiceBook.Boys.ix a1) fun v13 => some ((W ((W (v9 + (W (v4 * v11)))) - (W ((W (a3 - v4)) * v13.Loss)))))
theorem VZ (a0 : AA) (a1 : Int) (a2 : (Ar 5 Int)) (a3 : Int) : Ap (I0 a0 a1 a2 a3) (EP a0 a1 a2 a3) := by
 unfold I0 EP
 repeat' (first | with_reducible exact Ap.refl _ | apply NL | refine Ap.loop ?_ | refine Ap.bind ?_ ?_ | refine Ap.ite ?_ ?_ | apply Ap.onL | intro _ | split)
noncomputable def I2 (a0 : AA) (a1 : Int) (a2 : (Ar 5 Int)) (a3 : Int) (a4 : Int) : Option (Bool) := Option.bind (if (decide (Bc.key a2 = Bc.key (⟨[(-1), (-1), (-1), (-1), (-1)], rfl⟩ : (Ar 5 Int)))) then some (false) else Option.bind (a2.ix 4) fun v3 => if (decide (a3 < v3)) then Option.bind (a2.ix 0) fun v6 => Option.bind (I0 a0 a1 a2 a3) fun v9 => some ((Aa a4 v6 v9)) else some (false) : Option (Bool)) fun o11 => some (o11)
theorem VP (a0 : AA) (a1 : Int) (a2 : (Ar 5 Int)) (a3 : Int) (a4 : Int) : Ap (I2 a0 a1 a2 a3 a4) (Dk a0 a1 a2 a3 a4) := by
 unfold I2 Dk
 repeat' (first | with_reducible exact Ap.refl _ | apply VZ | refine Ap.loop ?_ | refine Ap.bind ?_ ?_ | refine Ap.ite ?_ ?_ | apply Ap.onL | intro _ | split)
noncomputable def Fj (a0 : AA) (a1 : Int) (a2 : Int) (a3 : Int) : AY × Int → Option ((AY × Int) ⊕ (AY))
 | (x10, x11) => if (decide (x11 < (((Mp.get a0.whole (Bc.key (Ab.mk a1 a2))).getD (Sl.nil : (Sl (Ar 5 Int)))).len))) then Option.bind (((Mp.get a0.whole (Bc.key (Ab.mk a1 a2))).getD (Sl.nil : (Sl (Ar 5 Int)))).ix x11) fun v17 => Option.bind (I2 a0 a1 v17 a2 a3) fun v21 => if v21 then some (.inl ((AY.mk (W (x10.so + 1)) x10.of_), (W (x11 + 1)))) else some (.inl (x10, (W (x11 + 1)))) else some (.inr x10)
theorem OW (a0 : AA) (a1 : Int) (a2 : Int) (a3 : Int) : ∀ z0, Ap (Fj a0 a1 a2 a3 z0) (BZ a0 a1 a2 a3 z0) := by
 rintro ⟨x10, x11⟩
 unfold Fj BZ
 dsimp only
 repeat' (first | with_reducible exact Ap.refl _ | apply VP | refine Ap.loop ?_ | refine Ap.bind ?_ ?_ | refine Ap.ite ?_ ?_ | apply Ap.onL | intro _ | split)
noncomputable def FY (a0 : AA) (a1 : Int) (a2 : Int) (a3 : Int) : Option (AY) := Option.bind (a0.truths.ix a1) fun v3 => Option.bind (Ff (Fj a0 a1 a2 a3) ((AY.mk 0 v3.len), 0)) (fun y12 => some (y12))
theorem KO (a0 : AA) (a1 : Int) (a2 : Int) (a3 : Int) : Ap (FY a0 a1 a2 a3) (CV a0 a1 a2 a3) := by
 unfold FY CV
 repeat' (first | with_reducible exact Ap.refl _ | apply OW | refine Ap.loop ?_ | refine Ap.bind ?_ ?_ | refine Ap.ite ?_ ?_ | apply Ap.onL | intro _ | split)
noncomputable def Ja (a2 : Int) (a3 : BS) (o10 : AA) (x17 : Int) (x28 : Int) : Option (Int ⊕ ((Unit) ⊕ (Unit))) := if (decide (x28 ≤ a3.High)) then Option.bind (FY o10 x17 a2 x28) fun v33 => if (DR v33) then some (.inl ((W (x28 + 1)))) else some (.inr (.inl ())) else some (.inr (.inr ()))
theorem Xl (a2 : Int) (a3 : BS) (o10 : AA) (x17 : Int) (x28 : Int) : Ap (Ja a2 a3 o10 x17 x28) (Da a2 a3 o10 x17 x28) := by
 unfold Ja Da
 repeat' (first | with_reducible exact Ap.refl _ | apply KO | refine Ap.loop ?_ | refine Ap.bind ?_ ?_ | refine Ap.ite ?_ ?_ | apply Ap.onL | intro _ | split)
noncomputable def Jp (a0 : VoiceBook) (a1 : Int) (a2 : Int) (a3 : BS) (o10 : AA) (x17 : Int) : Option (Int ⊕ ((Int × Int) ⊕ (Unit))) := if (decide (x17 < a0.Boys.len)) then if (decide (x17 = a1)) then some (.inl ((W (x17 + 1)))) else Option.bind (Ff (Ja a2 a3 o10 x17) a3.Low) (fun o => match o with | .inl _ => some (.inl ((W (x17 + 1)))) | .inr _ => some (.inr (.inl (x17, 0)))) else some (.inr (.inr ()))
theorem WG (a0 : VoiceBook) (a1 : Int) (a2 : Int) (a3 : BS) (o10 : AA) (x17 : Int) : Ap (Jp a0 a1 a2 a3 o10 x17) (DZ a0 a1 a2 a3 o10 x17) := by
 unfold Jp DZ
 repeat' (first | with_reducible exact Ap.refl _ | apply Xl | refine Ap.loop ?_ | refine Ap.bind ?_ ?_ | refine Ap.ite ?_ ?_ | apply Ap.onL | intro _ | split)
noncomputable def U6 (a0 : VoiceBook) (a1 : Int) (a2 : Int) (a3 : BS) : Option (Int × Int) := Option.bind (if (Cc a0 a1) then if (CC a0 a2) then Option.bind (D9 a0 (Ak a3 40 40)) fun v4 => some (v4.1, v4.2) else Option.bind (D9 a0 false) fun v6 => some (v6.1, v6.2) else Option.bind (D9 a0 false) fun v8 => some (v8.1, v8.2) : Option (AA × Int)) fun (o10, o11) => if (decide (o11 = 0)) then Option.bind (Ff (Jp a0 a1 a2 a3 o10) 0) (fun o => match o with | .inl w18 => some (w18) | .inr _ => some ((0, 4))) else some ((0, o11))
theorem dw (a0 : VoiceBook) (a1 : Int) (a2 : Int) (a3 : BS) : Ap (U6 a0 a1 a2 a3) (GN a0 a1 a2 a3) := by
 unfold U6 GN
 repeat' (first | with_reducible exact Ap.refl _ | apply RN | apply WG | refine Ap.loop ?_ | refine Ap.bind ?_ ?_ | refine Ap.ite ?_ ?_ | apply Ap.onL | intro _ | split)
noncomputable def VA (a0 : VoiceBook) (a1 : (Sl Int)) (a2 : (Sl BS)) : Option (BenchBook) := Option.bind (Ff (Ew a1 a2) ((BenchBook.mk a0 (Sl.nil : (Sl AK)) 3), 0)) (fun y7 => some (y7))
theorem OS (a0 : VoiceBook) (a1 : (Sl Int)) (a2 : (Sl BS)) : Ap (VA a0 a1 a2) (CQ a0 a1 a2) := by
 unfold VA CQ
 repeat' (first | with_reducible exact Ap.refl _ | refine Ap.loop ?_ | refine Ap.bind ?_ ?_ | refine Ap.ite ?_ ?_ | apply Ap.onL | intro _ | split)
noncomputable def Ir (a0 : BenchBook) : Bool × Int → Option ((Bool × Int) ⊕ (Bool))
 | (x10, x11) => if (decide (x11 < a0.Pieces.len)) then Option.bind (a0.Pieces.ix x11) fun v17 => Option.bind (Ff (ET v17) ((x10 && ((AQ v17.Week 0 (W (a0.Voice.Weeks - 1))) && (AQ v17.Parts.len 1 3))), 0)) (fun y27 => some (.inl (y27, (W (x11 + 1))))) else some (.inr x10)
theorem Vq (a0 : BenchBook) : ∀ z0, Ap (Ir a0 z0) (Di a0 z0) := by
 rintro ⟨x10, x11⟩
 unfold Ir Di
 dsimp only
 repeat' (first | with_reducible exact Ap.refl _ | refine Ap.loop ?_ | refine Ap.bind ?_ ?_ | refine Ap.ite ?_ ?_ | apply Ap.onL | intro _ | split)
noncomputable def L8 (a0 : BenchBook) : Option (Int) := Option.bind (Option.bind (HV a0.Voice) fun v2 => if (decide (v2 = 0)) then if (AQ a0.Pieces.len 1 3) then some ((AQ a0.Most 1 3)) else some (false) else some (false) : Option (Bool)) fun o6 => Option.bind (Ff (Ir a0) (o6, 0)) (fun y12 => if y12 then some (0) else some (70))
theorem cI (a0 : BenchBook) : Ap (L8 a0) (G2 a0) := by
 unfold L8 G2
 repeat' (first | with_reducible exact Ap.refl _ | apply M9 | apply Vq | refine Ap.loop ?_ | refine Ap.bind ?_ ?_ | refine Ap.ite ?_ ?_ | apply Ap.onL | intro _ | split)
noncomputable def G0 (a0 : AY) : Option (Int) := Option.bind (Ff (Az a0) (0, 0)) (fun y7 => some (y7))
theorem Qz (a0 : AY) : Ap (G0 a0) (Cb a0) := by
 unfold G0 Cb
 repeat' (first | with_reducible exact Ap.refl _ | refine Ap.loop ?_ | refine Ap.bind ?_ ?_ | refine Ap.ite ?_ ?_ | apply Ap.onL | intro _ | split)
noncomputable def MQ (a0 : VoiceBook) (a1 : Int) (a2 : Int) (a3 : Int) : Option (Int × Int) := Option.bind (if (Cc a0 a1) then if (CC a0 a2) then Option.bind (D9 a0 (D6 a3)) fun v4 => some (v4.1, v4.2) else Option.bind (D9 a0 false) fun v6 => some (v6.1, v6.2) else Option.bind (D9 a0 false) fun v8 => some (v8.1, v8.2) : Option (AA × Int)) fun (o10, o11) => if (decide (o11 = 0)) then Option.bind (FY o10 a1 a2 a3) fun v16 => Option.bind (G0 v16) fun v18 => some ((v18, 0)) else some ((0, o11))
theorem cZ (a0 : VoiceBook) (a1 : Int) (a2 : Int) (a3 : Int) : Ap (MQ a0 a1 a2 a3) (Gw a0 a1 a2 a3) := by
 unfold MQ Gw
 repeat' (first | with_reducible exact Ap.refl _ | apply RN | apply KO | apply Qz | refine Ap.loop ?_ | refine Ap.bind ?_ ?_ | refine Ap.ite ?_ ?_ | apply Ap.onL | intro _ | split)
noncomputable def Fz (a0 : AB) (a2 : Int) (v3 : AK) (v7 : A7) (x11 : Int) : Option (Int ⊕ ((Bool) ⊕ (Unit))) := if (decide (x11 < (W ((W (v7.Notes.High - v7.Notes.Low)) + 1)))) then Option.bind (MQ a0.BenchBook.Voice a2 v3.Week (W (v7.Notes.Low + x11))) fun v18 => if (if (decide (v18.2 = 0)) then (decide (v18.1 < 2)) else true) then some (.inr (.inl false)) else some (.inl ((W (x11 + 1)))) else some (.inr (.inr ()))
theorem Ou (a0 : AB) (a2 : Int) (v3 : AK) (v7 : A7) (x11 : Int) : Ap (Fz a0 a2 v3 v7 x11) (Ba a0 a2 v3 v7 x11) := by
 unfold Fz Ba
 repeat' (first | with_reducible exact Ap.refl _ | apply cZ | refine Ap.loop ?_ | refine Ap.bind ?_ ?_ | refine Ap.ite ?_ ?_ | apply Ap.onL | intro _ | split)
noncomputable def FX (a0 : AB) (a1 : AG) (a2 : Int) : Option (Bool) := Option.bind (a0.BenchBook.Pieces.ix a1.piece) fun v3 => Option.bind (v3.Parts.ix a1.part) fun v7 => Option.bind (Ff (Fz a0 a2 v3 v7) 0) (fun o => match o with | .inl w12 => some (w12) | .inr _ => some (true))
theorem KF (a0 : AB) (a1 : AG) (a2 : Int) : Ap (FX a0 a1 a2) (B9 a0 a1 a2) := by
 unfold FX B9
 repeat' (first | with_reducible exact Ap.refl _ | apply Ou | refine Ap.loop ?_ | refine Ap.bind ?_ ?_ | refine Ap.ite ?_ ?_ | apply Ap.onL | intro _ | split)
noncomputable def Gy (a0 : BenchBook) (x19 : Int) (x30 : Int) : (List (List Int × (Sl Int))) × Int → Option (((List (List Int × (Sl Int))) × Int) ⊕ (List (List Int × (Sl Int))))
 | (x40, x41) => if (decide (x41 < a0.Voice.Boys.len)) then Option.bind (if (HN x41) then some (true) else Option.bind (FX (AB.mk a0 (Mp.nil : (Mp 2 (Sl Int)))) (AG.mk x19 x30) x41) fun v50 => some ((!v50)) : Option (Bool)) fun o53 => if o53 then some (.inl (x40, (W (x41 + 1)))) else Option.bind (Sl.app 8 (Nb (Sl.nil : (Sl Int)) x40 (Bc.key (AG.mk x19 x30))) ([x41])) fun v59 => some (.inl ((EW x40 (Bc.key (AG.mk x19 x30)) v59), (W (x41 + 1)))) else some (.inr x40)
theorem QP (a0 : BenchBook) (x19 : Int) (x30 : Int) : ∀ z0, Ap (Gy a0 x19 x30 z0) (Ef a0 x19 x30 z0) := by
 rintro ⟨x40, x41⟩
 unfold Gy Ef
 dsimp only
 repeat' (first | with_reducible exact Ap.refl _ | apply KF | refine Ap.loop ?_ | refine Ap.bind ?_ ?_ | refine Ap.ite ?_ ?_ | apply Ap.onL | intro _ | split)
noncomputable def Gx (a0 : BenchBook) (x19 : Int) (v25 : AK) : (List (List Int × (Sl Int))) × Int → Option (((List (List Int × (Sl Int))) × Int) ⊕ (List (List Int × (Sl Int))))
 | (x29, x30) => if (decide (x30 < v25.Parts.len)) then Option.bind (Ff (Gy a0 x19 x30) (x29, 0)) (fun y42 => some (.inl (y42, (W (x30 + 1))))) else some (.inr x29)
theorem Qk (a0 : BenchBook) (x19 : Int) (v25 : AK) : ∀ z0, Ap (Gx a0 x19 v25 z0) (Ee a0 x19 v25 z0) := by
 rintro ⟨x29, x30⟩
 unfold Gx Ee
 dsimp only
 repeat' (first | with_reducible exact Ap.refl _ | apply QP | refine Ap.loop ?_ | refine Ap.bind ?_ ?_ | refine Ap.ite ?_ ?_ | apply Ap.onL | intro _ | split)
noncomputable def Gz (a0 : BenchBook) : (List (List Int × (Sl Int))) × Int → Option (((List (List Int × (Sl Int))) × Int) ⊕ (List (List Int × (Sl Int))))
 | (x18, x19) => if (decide (x19 < a0.Pieces.len)) then Option.bind (a0.Pieces.ix x19) fun v25 => Option.bind (Ff (Gx a0 x19 v25) (x18, 0)) (fun y31 => some (.inl (y31, (W (x19 + 1))))) else some (.inr x18)
theorem QS (a0 : BenchBook) : ∀ z0, Ap (Gz a0 z0) (Eb a0 z0) := by
 rintro ⟨x18, x19⟩
 unfold Gz Eb
 dsimp only
 repeat' (first | with_reducible exact Ap.refl _ | apply Qk | refine Ap.loop ?_ | refine Ap.bind ?_ ?_ | refine Ap.ite ?_ ?_ | apply Ap.onL | intro _ | split)
noncomputable def I4 (a0 : BenchBook) : Option (AB) := Option.bind (Ff (Gz a0) ((EW ([] : List (List Int × (Sl Int))) (Bc.key (AG.mk (-1) (-1))) (Sl.nil : (Sl Int))), 0)) (fun y20 => some ((AB.mk a0 (Mp.mk y20))))
theorem Vf (a0 : BenchBook) : Ap (I4 a0) (FA a0) := by
 unfold I4 FA
 repeat' (first | with_reducible exact Ap.refl _ | apply QS | refine Ap.loop ?_ | refine Ap.bind ?_ ?_ | refine Ap.ite ?_ ?_ | apply Ap.onL | intro _ | split)
noncomputable def F5 (a0 : BenchBook) (a1 : Bool) : Option (AB × Int) := Option.bind (L8 a0) fun v3 => if (decide (v3 = 0)) then if a1 then Option.bind (M5 a0.Voice) fun v10 => if v10.1 then Option.bind (I4 a0) fun v15 => some ((v15, 0)) else some (((AB.mk (BenchBook.mk (VoiceBook.mk (Sl.nil : (Sl AL)) 0 (Sl.nil : (Sl AI))) (Sl.nil : (Sl AK)) 0) (Mp.nil : (Mp 2 (Sl Int)))), 72)) else some (((AB.mk (BenchBook.mk (VoiceBook.mk (Sl.nil : (Sl AL)) 0 (Sl.nil : (Sl AI))) (Sl.nil : (Sl AK)) 0) (Mp.nil : (Mp 2 (Sl Int)))), 71)) else some (((AB.mk (BenchBook.mk (VoiceBook.mk (Sl.nil : (Sl AL)) 0 (Sl.nil : (Sl AI))) (Sl.nil : (Sl AK)) 0) (Mp.nil : (Mp 2 (Sl Int)))), v3))
theorem Mc (a0 : BenchBook) (a1 : Bool) : Ap (F5 a0 a1) (Bm a0 a1) := by
 unfold F5 Bm
 repeat' (first | with_reducible exact Ap.refl _ | apply cI | apply cr | apply Vf | refine Ap.loop ?_ | refine Ap.bind ?_ ?_ | refine Ap.ite ?_ ?_ | apply Ap.onL | intro _ | split)
noncomputable def Wx (a0 : BenchBook) (a1 : Int) (a2 : Int) : Option ((Sl Int) × Int) := Option.bind (if (BM a0 a1) then Option.bind (a0.Pieces.ix a1) fun v3 => Option.bind (F5 a0 (AQ a2 0 (W (v3.Parts.len - 1)))) fun v5 => some (v5.1, v5.2) else Option.bind (F5 a0 false) fun v7 => some (v7.1, v7.2) : Option (AB × Int)) fun (o9, o10) => if (decide (o10 = 0)) then Option.bind (((Mp.get o9.able (Bc.key (AG.mk a1 a2))).getD (Sl.nil : (Sl Int))).sub3 none (((Mp.get o9.able (Bc.key (AG.mk a1 a2))).getD (Sl.nil : (Sl Int))).len)) fun v18 => some ((v18, 0)) else some (((Sl.nil : (Sl Int)), o10))
theorem jK (a0 : BenchBook) (a1 : Int) (a2 : Int) : Ap (Wx a0 a1 a2) (Fh a0 a1 a2) := by
 unfold Wx Fh
 repeat' (first | with_reducible exact Ap.refl _ | apply Mc | refine Ap.loop ?_ | refine Ap.bind ?_ ?_ | refine Ap.ite ?_ ?_ | apply Ap.onL | intro _ | split)
noncomputable def Gi (a0 : AB) (a1 : (Sl Int)) : (Sl Int) × Int → Option (((Sl Int) × Int) ⊕ (Sl Int))
 | (x4, x5) => if (decide (x5 < a0.BenchBook.Pieces.len)) then Option.bind (GF a1 x5) fun v12 => if v12 then some (.inl (x4, (W (x5 + 1)))) else Option.bind (Sl.app 8 x4 ([x5])) fun v17 => some (.inl (v17, (W (x5 + 1)))) else some (.inr x4)
theorem Pi (a0 : AB) (a1 : (Sl Int)) : ∀ z0, Ap (Gi a0 a1 z0) (Bq a0 a1 z0) := by
 rintro ⟨x4, x5⟩
 unfold Gi Bq
 dsimp only
 repeat' (first | with_reducible exact Ap.refl _ | apply K4 | refine Ap.loop ?_ | refine Ap.bind ?_ ?_ | refine Ap.ite ?_ ?_ | apply Ap.onL | intro _ | split)
noncomputable def EY (a0 : AB) (a1 : (Sl Int)) : Option (Sl Int) := Option.bind (Ff (Gi a0 a1) ((Sl.nil : (Sl Int)), 0)) (fun y6 => some (y6))
theorem Hz (a0 : AB) (a1 : (Sl Int)) : Ap (EY a0 a1) (B6 a0 a1) := by
 unfold EY B6
 repeat' (first | with_reducible exact Ap.refl _ | apply Pi | refine Ap.loop ?_ | refine Ap.bind ?_ ?_ | refine Ap.ite ?_ ?_ | apply Ap.onL | intro _ | split)
noncomputable def Fo (a0 : AB) (a1 : (Sl Int)) (a2 : Int) : (Sl AD) × Int → Option (((Sl AD) × Int) ⊕ (Sl AD))
 | (x4, x5) => if (decide (x5 < a1.len)) then Option.bind (a1.ix x5) fun v11 => Option.bind (a0.BenchBook.Pieces.ix v11) fun v14 => Option.bind (v14.Parts.sub none (some (min a2 v14.Parts.len))) fun v16 => Option.bind (Ff (CB v11 v16) (x4, 0)) (fun y23 => some (.inl (y23, (W (x5 + 1))))) else some (.inr x4)
theorem Oh (a0 : AB) (a1 : (Sl Int)) (a2 : Int) : ∀ z0, Ap (Fo a0 a1 a2 z0) (BW a0 a1 a2 z0) := by
 rintro ⟨x4, x5⟩
 unfold Fo BW
 dsimp only
 repeat' (first | with_reducible exact Ap.refl _ | refine Ap.loop ?_ | refine Ap.bind ?_ ?_ | refine Ap.ite ?_ ?_ | apply Ap.onL | intro _ | split)
noncomputable def FO (a0 : AB) (a1 : (Sl Int)) (a2 : Int) : Option (Sl AD) := Option.bind (Ff (Fo a0 a1 a2) ((Sl.nil : (Sl AD)), 0)) (fun y6 => some (y6))
theorem KD (a0 : AB) (a1 : (Sl Int)) (a2 : Int) : Ap (FO a0 a1 a2) (Be a0 a1 a2) := by
 unfold FO Be
 repeat' (first | with_reducible exact Ap.refl _ | apply Oh | refine Ap.loop ?_ | refine Ap.bind ?_ ?_ | refine Ap.ite ?_ ?_ | apply Ap.onL | intro _ | split)
noncomputable def GZ (a0 : (Sl AC)) (a1c0x : AD) (a1c1x : Int) : Option (Int) := Option.bind (Ff (A8 a0 a1c0x a1c1x) 0) (fun o => match o with | .inl w4 => some (w4) | .inr _ => some ((-1)))
theorem Pj (a0 : (Sl AC)) (a1c0x : AD) (a1c1x : Int) : Ap (GZ a0 a1c0x a1c1x) (DF a0 a1c0x a1c1x) := by
 unfold GZ DF
 repeat' (first | with_reducible exact Ap.refl _ | refine Ap.loop ?_ | refine Ap.bind ?_ ?_ | refine Ap.ite ?_ ?_ | apply Ap.onL | intro _ | split)
noncomputable def Ez (a0 : (Sl AC)) (a1c0x : AD) (a1c1x : Int) : Option (Bool) := Option.bind (GZ a0 a1c0x a1c1x) fun v2 => some ((decide (0 ≤ v2)))
theorem MD (a0 : (Sl AC)) (a1c0x : AD) (a1c1x : Int) : Ap (Ez a0 a1c0x a1c1x) (BJ a0 a1c0x a1c1x) := by
 unfold Ez BJ
 repeat' (first | with_reducible exact Ap.refl _ | apply Pj | refine Ap.loop ?_ | refine Ap.bind ?_ ?_ | refine Ap.ite ?_ ?_ | apply Ap.onL | intro _ | split)
noncomputable def Dx {σ : Type} (rec_ : (Sl AC) → (Sl AD) → (Ar 24 Int) → AB → σ → Option (Bool × σ)) (a0 : (Sl AC)) (a1 : (Sl AD)) (a2 : (Ar 24 Int)) (a5 : AB) (v18 : AD) : σ × Int → Option ((σ × Int) ⊕ ((Bool × σ) ⊕ (σ)))
 | (x24, x25) => if (decide (x25 < (((Mp.get a5.able (Bc.key v18.at_)).getD (Sl.nil : (Sl Int))).len))) then Option.bind (((Mp.get a5.able (Bc.key v18.at_)).getD (Sl.nil : (Sl Int))).ix x25) fun v32 => Option.bind (a5.BenchBook.Pieces.ix v18.at_.piece) fun v35 => Option.bind (Option.bind (Ez a0 v18 v32) fun v38 => if v38 then some (true) else if (decide (Bc.key a2 = Bc.key Bw)) then some (false) else Option.bind (a2.ix (W ((W (v35.Week * 4)) + v32))) fun v43 => some ((decide (v43 = a5.BenchBook.Most))) : Option (Bool)) fun o45 => if o45 then some (.inl (x24, (W (x25 + 1)))) else Option.bind (a2.ix (W ((W (v35.Week * 4)) + v32))) fun v53 => Option.bind (a1.sub (some 1) none) fun v59 => Option.bind (Sl.app 32 (Sl.hot [(AD.mk v18.at_ (W (v18.many - 1)) (W (x25 + 1)))] : Sl AD) v59.l) fun v61 => Option.bind (a0.sub3 none a0.len) fun v66 => Option.bind (Sl.app 24 v66 ([(AC.mk v18.at_.piece v18.at_.part v32)])) fun v68 => Option.bind (rec_ v68 v61 (a2.put (W ((W (v35.Week * 4)) + v32)) (W (v53 + 1))) a5 x24) fun (v70, t71) => if v70 then some (.inl (t71, (W (x25 + 1)))) else some (.inr (.inl (false, t71))) else some (.inr (.inr x24))
theorem JU {σ : Type} {rec_q rec_ : (Sl AC) → (Sl AD) → (Ar 24 Int) → AB → σ → Option (Bool × σ)} (hrec_ : ∀ y0 y1 y2 y3 y4, Ap (rec_q y0 y1 y2 y3 y4) (rec_ y0 y1 y2 y3 y4)) (a0 : (Sl AC)) (a1 : (Sl AD)) (a2 : (Ar 24 Int)) (a5 : AB) (v18 : AD) : ∀ z0, Ap (Dx rec_q a0 a1 a2 a5 v18 z0) (Aj rec_ a0 a1 a2 a5 v18 z0) := by
 rintro ⟨x24, x25⟩
 unfold Dx Aj
 dsimp only
 repeat' (first | with_reducible exact Ap.refl _ | apply hrec_ | apply MD | refine Ap.loop ?_ | refine Ap.bind ?_ ?_ | refine Ap.ite ?_ ?_ | apply Ap.onL | intro _ | split)
noncomputable def CG {σ : Type} (yf : (Sl AC) → σ → Option (Bool × σ)) : Nat → (Sl AC) → (Sl AD) → (Ar 24 Int) → AB → σ → Option (Bool × σ)
 | 0, _, _, _, _, _ => none
 | n + 1, a0, a1, a2, a5, st => if (decide (a1.len = 0)) then Option.bind (yf a0 st) fun (v4, t5) => some ((v4, t5)) else Option.bind (a1.ix 0) fun v8 => if (decide (v8.many = 0)) then Option.bind (a1.sub (some 1) none) fun v12 => Option.bind ((CG yf n) a0 v12 a2 a5 st) fun (v14, t15) => some ((v14, t15)) else Option.bind (a1.ix 0) fun v18 => Option.bind (Ff (Dx (CG yf n) a0 a1 a2 a5 v18) (st, v18.from_)) (fun o => match o with | .inl w26 => some (w26) | .inr y27 => some ((true, y27)))
theorem LX {σ : Type} {yfq yf : (Sl AC) → σ → Option (Bool × σ)} (hyf : ∀ y0 y1, Ap (yfq y0 y1) (yf y0 y1)) : ∀ z0 z1 z2 z3 z4 z5, Ap (CG yfq z0 z1 z2 z3 z4 z5) (AW yf z0 z1 z2 z3 z4 z5) := by
 intro z0
 induction z0 with
 | zero => intros; exact Xf _
 | succ n ih =>
  intros
  unfold CG AW
  repeat' (first | with_reducible exact Ap.refl _ | apply hyf | apply ih | apply JU | refine Ap.loop ?_ | refine Ap.bind ?_ ?_ | refine Ap.ite ?_ ?_ | apply Ap.onL | intro _ | split)
noncomputable def EH {σ : Type} (yf : (Sl AC) → σ → Option (Bool × σ)) (a1 : AB) (a2 : (Sl AD)) (st : σ) : Option (Unit × σ) := Option.bind (CG yf 64 (Sl.nil : (Sl AC)) a2 Bw a1 st) fun (v5, t6) => some (((), t6))
theorem Ij {σ : Type} {yfq yf : (Sl AC) → σ → Option (Bool × σ)} (hyf : ∀ y0 y1, Ap (yfq y0 y1) (yf y0 y1)) (a1 : AB) (a2 : (Sl AD)) (st : σ) : Ap (EH yfq a1 a2 st) (BX yf a1 a2 st) := by
 unfold EH BX
 repeat' (first | with_reducible exact Ap.refl _ | apply hyf | apply LX | refine Ap.loop ?_ | refine Ap.bind ?_ ?_ | refine Ap.ite ?_ ?_ | apply Ap.onL | intro _ | split)
noncomputable def Hj (a0 : AB) (a1 : (Sl AD)) : Option ((Sl AC) × Bool) := Option.bind (EH (onL (Ce)) a0 a1 (.inl ())) (fun o => match o with | (_, .inl _) => some (((Sl.nil : (Sl AC)), false)) | (_, .inr y6) => some ((y6, true)))
theorem Rr (a0 : AB) (a1 : (Sl AD)) : Ap (Hj a0 a1) (Bd a0 a1) := by
 unfold Hj Bd
 repeat' (first | with_reducible exact Ap.refl _ | apply Ij | refine Ap.loop ?_ | refine Ap.bind ?_ ?_ | refine Ap.ite ?_ ?_ | apply Ap.onL | intro _ | split)
noncomputable def DJ : Nat → (Sl Int) → Int → AB → Option (T3 (Sl Int) (Sl AC) Bool)
 | 0, _, _, _ => none
 | n + 1, a0, a1, a2x => if (decide (a0.len = a1)) then Option.bind (EY a2x a0) fun v5 => Option.bind (FO a2x v5 3) fun v7 => Option.bind (Hj a2x v7) fun v9 => some ((T3.mk a0 v9.1 v9.2)) else Option.bind (if (decide (0 < a0.len)) then Option.bind (a0.ix (W (a0.len - 1))) fun v21 => some (W (v21 + 1)) else some (0) : Option (Int)) (fun y18 => Option.bind (Ff (A3 (DJ n) a0 a1 a2x) y18) (fun o => match o with | .inl w26 => some (w26) | .inr _ => some ((T3.mk (Sl.nil : (Sl Int)) (Sl.nil : (Sl AC)) false))))
theorem LU : ∀ z0 z1 z2 z3, Ap (DJ  z0 z1 z2 z3) (Ae  z0 z1 z2 z3) := by
 intro z0
 induction z0 with
 | zero => intros; exact Xf _
 | succ n ih =>
  intros
  unfold DJ Ae
  repeat' (first | with_reducible exact Ap.refl _ | apply ih | apply Hz | apply KD | apply Rr | refine Ap.loop ?_ | refine Ap.bind ?_ ?_ | refine Ap.ite ?_ ?_ | apply Ap.onL | intro _ | split)
noncomputable def FI (a0 : AB) (x6 : Int) : Option (Int ⊕ (((Sl Int) × (Sl AC)) ⊕ (Unit))) := if (decide (x6 < a0.BenchBook.Pieces.len)) then Option.bind (DJ 64 (Sl.nil : (Sl Int)) x6 a0) fun v13 => if v13.c then some (.inr (.inl (v13.a, v13.b))) else some (.inl ((W (x6 + 1)))) else some (.inr (.inr ()))
theorem Nn (a0 : AB) (x6 : Int) : Ap (FI a0 x6) (A5 a0 x6) := by
 unfold FI A5
 repeat' (first | with_reducible exact Ap.refl _ | apply LU | refine Ap.loop ?_ | refine Ap.bind ?_ ?_ | refine Ap.ite ?_ ?_ | apply Ap.onL | intro _ | split)
noncomputable def Em (a0 : AB) : Option ((Sl Int) × (Sl AC)) := Option.bind (Ff (FI a0) 0) (fun o => match o with | .inl w7 => some (w7) | .inr _ => Option.bind (EY a0 (Sl.nil : (Sl Int))) fun v25 => some ((v25, (Sl.nil : (Sl AC)))))
theorem JX (a0 : AB) : Ap (Em a0) (BR a0) := by
 unfold Em BR
 repeat' (first | with_reducible exact Ap.refl _ | apply Nn | apply Hz | refine Ap.loop ?_ | refine Ap.bind ?_ ?_ | refine Ap.ite ?_ ?_ | apply Ap.onL | intro _ | split)
noncomputable def GY (a0 : BenchBook) (a1s0c0x : Int) (x19 : Int) (x30 : Int) : (List (List Int × (Sl Int))) × Int → Option (((List (List Int × (Sl Int))) × Int) ⊕ (List (List Int × (Sl Int))))
 | (x40, x41) => if (decide (x41 < a0.Voice.Boys.len)) then Option.bind (if (Ea x41 a1s0c0x) then some (true) else Option.bind (FX (AB.mk a0 (Mp.nil : (Mp 2 (Sl Int)))) (AG.mk x19 x30) x41) fun v50 => some ((!v50)) : Option (Bool)) fun o53 => if o53 then some (.inl (x40, (W (x41 + 1)))) else Option.bind (Sl.app 8 (Nb (Sl.nil : (Sl Int)) x40 (Bc.key (AG.mk x19 x30))) ([x41])) fun v59 => some (.inl ((EW x40 (Bc.key (AG.mk x19 x30)) v59), (W (x41 + 1)))) else some (.inr x40)
theorem PW (a0 : BenchBook) (a1s0c0x : Int) (x19 : Int) (x30 : Int) : ∀ z0, Ap (GY a0 a1s0c0x x19 x30 z0) (ED a0 a1s0c0x x19 x30 z0) := by
 rintro ⟨x40, x41⟩
 unfold GY ED
 dsimp only
 repeat' (first | with_reducible exact Ap.refl _ | apply KF | refine Ap.loop ?_ | refine Ap.bind ?_ ?_ | refine Ap.ite ?_ ?_ | apply Ap.onL | intro _ | split)
noncomputable def Gf (a0 : BenchBook) (a1s0c0x : Int) (x19 : Int) (v25 : AK) : (List (List Int × (Sl Int))) × Int → Option (((List (List Int × (Sl Int))) × Int) ⊕ (List (List Int × (Sl Int))))
 | (x29, x30) => if (decide (x30 < v25.Parts.len)) then Option.bind (Ff (GY a0 a1s0c0x x19 x30) (x29, 0)) (fun y42 => some (.inl (y42, (W (x30 + 1))))) else some (.inr x29)
theorem Pg (a0 : BenchBook) (a1s0c0x : Int) (x19 : Int) (v25 : AK) : ∀ z0, Ap (Gf a0 a1s0c0x x19 v25 z0) (EC a0 a1s0c0x x19 v25 z0) := by
 rintro ⟨x29, x30⟩
 unfold Gf EC
 dsimp only
 repeat' (first | with_reducible exact Ap.refl _ | apply PW | refine Ap.loop ?_ | refine Ap.bind ?_ ?_ | refine Ap.ite ?_ ?_ | apply Ap.onL | intro _ | split)
noncomputable def Ge (a0 : BenchBook) (a1s0c0x : Int) : (List (List Int × (Sl Int))) × Int → Option (((List (List Int × (Sl Int))) × Int) ⊕ (List (List Int × (Sl Int))))
 | (x18, x19) => if (decide (x19 < a0.Pieces.len)) then Option.bind (a0.Pieces.ix x19) fun v25 => Option.bind (Ff (Gf a0 a1s0c0x x19 v25) (x18, 0)) (fun y31 => some (.inl (y31, (W (x19 + 1))))) else some (.inr x18)
theorem Px (a0 : BenchBook) (a1s0c0x : Int) : ∀ z0, Ap (Ge a0 a1s0c0x z0) (EE a0 a1s0c0x z0) := by
 rintro ⟨x18, x19⟩
 unfold Ge EE
 dsimp only
 repeat' (first | with_reducible exact Ap.refl _ | apply Pg | refine Ap.loop ?_ | refine Ap.bind ?_ ?_ | refine Ap.ite ?_ ?_ | apply Ap.onL | intro _ | split)
noncomputable def Hv (a0 : BenchBook) (a1s0c0x : Int) : Option (AB) := Option.bind (Ff (Ge a0 a1s0c0x) ((EW ([] : List (List Int × (Sl Int))) (Bc.key (AG.mk (-1) (-1))) (Sl.nil : (Sl Int))), 0)) (fun y20 => some ((AB.mk a0 (Mp.mk y20))))
theorem Tu (a0 : BenchBook) (a1s0c0x : Int) : Ap (Hv a0 a1s0c0x) (Eh a0 a1s0c0x) := by
 unfold Hv Eh
 repeat' (first | with_reducible exact Ap.refl _ | apply Px | refine Ap.loop ?_ | refine Ap.bind ?_ ?_ | refine Ap.ite ?_ ?_ | apply Ap.onL | intro _ | split)
noncomputable def MS (a0 : Int) (a1 : (Sl Int)) : Option (Int) := Option.bind (Ff (IX a1) (a0, 0)) (fun y5 => some (y5))
theorem be (a0 : Int) (a1 : (Sl Int)) : Ap (MS a0 a1) (H9 a0 a1) := by
 unfold MS H9
 repeat' (first | with_reducible exact Ap.refl _ | refine Ap.loop ?_ | refine Ap.bind ?_ ?_ | refine Ap.ite ?_ ?_ | apply Ap.onL | intro _ | split)
noncomputable def Jz (a0 : BenchBook) (v7 : ((Sl Int) × (Sl AC))) : (Sl Int) × Int → Option (((Sl Int) × Int) ⊕ (Sl Int))
 | (x12, x13) => if (decide (x13 < a0.Voice.Boys.len)) then Option.bind (Hv a0 x13) fun v20 => Option.bind (Em v20) fun v24 => Option.bind (MS v7.1.len (Sl.cold [v24.1.len] : Sl Int)) fun v33 => if (decide (v33 < v24.1.len)) then Option.bind (Sl.app 8 x12 ([x13])) fun v37 => some (.inl (v37, (W (x13 + 1)))) else some (.inl (x12, (W (x13 + 1)))) else some (.inr x12)
theorem X4 (a0 : BenchBook) (v7 : ((Sl Int) × (Sl AC))) : ∀ z0, Ap (Jz a0 v7 z0) (EF a0 v7 z0) := by
 rintro ⟨x12, x13⟩
 unfold Jz EF
 dsimp only
 repeat' (first | with_reducible exact Ap.refl _ | apply Tu | apply JX | apply be | refine Ap.loop ?_ | refine Ap.bind ?_ ?_ | refine Ap.ite ?_ ?_ | apply Ap.onL | intro _ | split)
noncomputable def Ux (a0 : BenchBook) : Option ((Sl Int) × Int) := Option.bind (F5 a0 true) fun v2 => if (decide (v2.2 = 0)) then Option.bind (Em v2.1) fun v7 => Option.bind (Ff (Jz a0 v7) ((Sl.nil : (Sl Int)), 0)) (fun y14 => Option.bind (y14.sub3 none y14.len) fun v43 => some ((v43, 0))) else some (((Sl.nil : (Sl Int)), v2.2))
theorem eB (a0 : BenchBook) : Ap (Ux a0) (F6 a0) := by
 unfold Ux F6
 repeat' (first | with_reducible exact Ap.refl _ | apply Mc | apply JX | apply X4 | refine Ap.loop ?_ | refine Ap.bind ?_ ?_ | refine Ap.ite ?_ ?_ | apply Ap.onL | intro _ | split)
noncomputable def Uu (a0 : BenchBook) : Option (Int × Int) := Option.bind (F5 a0 true) fun v2 => if (decide (v2.2 = 0)) then Option.bind (EY v2.1 (Sl.nil : (Sl Int))) fun v8 => Option.bind (FO v2.1 v8 3) fun v10 => Option.bind (EH (onL (GH)) v2.1 v10 (.inl 0)) (fun o => match o with | (_, .inl y19) => some ((y19, 0)) | (_, .inr _) => none) else some ((0, v2.2))
theorem eg (a0 : BenchBook) : Ap (Uu a0) (GE a0) := by
 unfold Uu GE
 repeat' (first | with_reducible exact Ap.refl _ | apply Mc | apply Hz | apply KD | apply Ij | refine Ap.loop ?_ | refine Ap.bind ?_ ?_ | refine Ap.ite ?_ ?_ | apply Ap.onL | intro _ | split)
noncomputable def R7 (a0 : (Sl Int)) : Option (Aq) := Option.bind (Ff (IU a0) ((Aq.mk 1 (Sl.nil : (Sl BS)) 0 255 0 (Sl.nil : (Sl JK))), 0)) (fun y8 => some (y8))
theorem AM (a0 : (Sl Int)) : Ap (R7 a0) (AP a0) := by
 unfold R7 AP
 repeat' (first | with_reducible exact Ap.refl _ | refine Ap.loop ?_ | refine Ap.bind ?_ ?_ | refine Ap.ite ?_ ?_ | apply Ap.onL | intro _ | split)
noncomputable def RZ (a0 : (Sl Int)) (a1 : (Sl Int)) : Option (Bool) := Option.bind (Ff (B7 a0 a1) ((decide (a0.len = a1.len)), 0)) (fun y6 => some (y6))
theorem R2 (a0 : (Sl Int)) (a1 : (Sl Int)) : Ap (RZ a0 a1) (CN a0 a1) := by
 unfold RZ CN
 repeat' (first | with_reducible exact Ap.refl _ | refine Ap.loop ?_ | refine Ap.bind ?_ ?_ | refine Ap.ite ?_ ?_ | apply Ap.onL | intro _ | split)
end Go.Lf
