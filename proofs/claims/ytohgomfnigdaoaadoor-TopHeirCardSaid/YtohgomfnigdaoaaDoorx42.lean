/- A part of the proof. -/
import Derived.Test.YtohgomfnigdaoaaDoorx22
set_option linter.all false
set_option maxRecDepth 100000
namespace Go.Lf
open Go
structure Ap {α : Type} (a b : Option α) : Prop where
 of : ∀ r, a = some r → b = some r
theorem Ap.refl {α : Type} (a : Option α) : Ap a a := ⟨fun _ h => h⟩
theorem Xo {α : Type} (b : Option α) : Ap none b := ⟨fun _ h => by cases h⟩
theorem Ap.bind {α β : Type} {a b : Option α} {f g : α → Option β} (h : Ap a b) (k : ∀ x, Ap (f x) (g x)) : Ap (a.bind f) (b.bind g) := by
 constructor
 intro r hr
 cases a with
 | none => cases hr
 | some x => rw [h.of x rfl]; exact (k x).of r hr
theorem Ap.ite {α : Type} {c : Bool} {a b a' b' : Option α} (h : Ap a b) (k : Ap a' b') : Ap (if c = true then a else a') (if c = true then b else b') := by
 split
 ·exact h
 ·exact k
def FH {σ ρ : Type} (f : σ → Option (σ ⊕ ρ)) (x : σ) : Option ρ := turns f 1000000 x
theorem Ap.turns {σ ρ : Type} {f g : σ → Option (σ ⊕ ρ)} (h : ∀ x, Ap (f x) (g x)) : ∀ (n : Nat) (x : σ), Ap (turns f n x) (turns g n x)
 | 0, x => Xo _
 | n + 1, x => by
  constructor
  intro r hr
  simp only [Go.Lf.turns] at hr ⊢
  cases hf : f x with
  | none => rw [hf] at hr; cases hr
  | some y =>
   rw [hf] at hr
   rw [(h x).of y hf]
   cases y with
   | inl z => exact (Ap.turns h n z).of r hr
   | inr z => exact hr
theorem Ap.loop {σ ρ : Type} {f g : σ → Option (σ ⊕ ρ)} {x : σ} (h : ∀ x, Ap (f x) (g x)) : Ap (FH f x) (Loop g x) := ⟨fun r hr => Oy.mpr ⟨_, (Ap.turns h _ x).of r hr⟩⟩
theorem Ap.onL {α τ X : Type} {F G : α → τ → Option (Bool × (τ ⊕ X))} (h : ∀ x t, Ap (F x t) (G x t)) (x : α) (st : τ ⊕ X) : Ap (onL F x st) (Go.Lf.onL G x st) := by
 cases st with
 | inl t => exact h x t
 | inr _ => exact Xo _
noncomputable def HH (a0 : VoiceBook) : Option (Int) := Option.bind (FH (EL a0) (((AZ a0.Boys.len 1 4) && ((AZ a0.Weeks 1 6) && (decide (a0.Trials.len ≤ 6)))), 0)) (fun y9 => Option.bind (FH (EJ a0) (y9, 0)) (fun y33 => if y33 then some (0) else some (20)))
theorem M5 (a0 : VoiceBook) : Ap (HH a0) (Dm a0) := by
 unfold HH Dm
 repeat' (first | with_reducible exact Ap.refl _ | refine Ap.loop ?_ | refine Ap.bind ?_ ?_ | refine Ap.ite ?_ ?_ | apply Ap.onL | intro _ | split)
noncomputable def KL (a0 : (Sl Int)) (a1 : Int) : Option (Int) := Option.bind (FH (A9 a0 a1) 0) (fun o => match o with | .inl w4 => some (w4) | .inr _ => some ((-1)))
theorem Y2 (a0 : (Sl Int)) (a1 : Int) : Ap (KL a0 a1) (FS a0 a1) := by
 unfold KL FS
 repeat' (first | with_reducible exact Ap.refl _ | refine Ap.loop ?_ | refine Ap.bind ?_ ?_ | refine Ap.ite ?_ ?_ | apply Ap.onL | intro _ | split)
noncomputable def F3 (a0 : (Sl Int)) (a1 : Int) : Option (Bool) := Option.bind (KL a0 a1) fun v2 => some ((decide (0 ≤ v2)))
theorem LO (a0 : (Sl Int)) (a1 : Int) : Ap (F3 a0 a1) (Bq a0 a1) := by
 unfold F3 Bq
 repeat' (first | with_reducible exact Ap.refl _ | apply Y2 | refine Ap.loop ?_ | refine Ap.bind ?_ ?_ | refine Ap.ite ?_ ?_ | apply Ap.onL | intro _ | split)
noncomputable def HG (a0 : Int) (a1 : (Sl Int)) : Option (Int) := Option.bind (FH (EE a1) (a0, 0)) (fun y5 => some (y5))
theorem MV (a0 : Int) (a1 : (Sl Int)) : Ap (HG a0 a1) (Ec a0 a1) := by
 unfold HG Ec
 repeat' (first | with_reducible exact Ap.refl _ | refine Ap.loop ?_ | refine Ap.bind ?_ ?_ | refine Ap.ite ?_ ?_ | apply Ap.onL | intro _ | split)
noncomputable def HB (a0 : AA) (a1 : Int) (a2 : (Ar 5 Int)) (a3 : Int) : Option (Int) := Option.bind (a2.ix 3) fun v3 => Option.bind (HG a3 (Sl.cold [v3] : Sl Int)) fun v5 => Option.bind (a2.ix 1) fun v10 => Option.bind (a2.ix 2) fun v12 => Option.bind (a0.VoiceBook.Boys.ix a1) fun v14 => some ((W ((W (v10 + (W (v5 * v12)))) - (W ((W (a3 - v5)) * v14.Loss)))))
theorem SL (a0 : AA) (a1 : Int) (a2 : (Ar 5 Int)) (a3 : Int) : Ap (HB a0 a1 a2 a3) (Et a0 a1 a2 a3) := by
 unfold HB Et
 repeat' (first | with_reducible exact Ap.refl _ | apply MV | refine Ap.loop ?_ | refine Ap.bind ?_ ?_ | refine Ap.ite ?_ ?_ | apply Ap.onL | intro _ | split)
noncomputable def HS (a0 : AA) (a1 : Int) (a2 : (Ar 5 Int)) (a3 : Int) (a4 : Int) : Option (Bool) := Option.bind (if (decide (BU.key a2 = BU.key (⟨[(-1), (-1), (-1), (-1), (-1)], rfl⟩ : (Ar 5 Int)))) then some (false) else Option.bind (a2.ix 4) fun v4 => if (decide (a3 < v4)) then Option.bind (a2.ix 0) fun v7 => Option.bind (HB a0 a1 a2 a3) fun v9 => some ((AZ a4 v7 v9)) else some (false) : Option (Bool)) fun o12 => some (o12)
theorem SN (a0 : AA) (a1 : Int) (a2 : (Ar 5 Int)) (a3 : Int) (a4 : Int) : Ap (HS a0 a1 a2 a3 a4) (Dw a0 a1 a2 a3 a4) := by
 unfold HS Dw
 repeat' (first | with_reducible exact Ap.refl _ | apply SL | refine Ap.loop ?_ | refine Ap.bind ?_ ?_ | refine Ap.ite ?_ ?_ | apply Ap.onL | intro _ | split)
noncomputable def Eo (a0 : AA) (a1 : Int) (a2 : (Ar 5 Int)) (a3 : (Sl Int)) (x5 : Int) : Option (Int ⊕ ((Bool) ⊕ (Unit))) := if (decide (x5 < a0.VoiceBook.Trials.len)) then Option.bind (a0.VoiceBook.Trials.ix x5) fun v11 => Option.bind (if (decide (v11.Boy = a1)) then Option.bind (F3 a3 x5) fun v15 => if v15 then some (false) else Option.bind (HS a0 a1 a2 v11.Week v11.Note) fun v18 => some ((v18 != (decide (v11.Sang = 1)))) else some (false) : Option (Bool)) fun o21 => if o21 then some (.inr (.inl false)) else some (.inl ((W (x5 + 1)))) else some (.inr (.inr ()))
theorem MB (a0 : AA) (a1 : Int) (a2 : (Ar 5 Int)) (a3 : (Sl Int)) (x5 : Int) : Ap (Eo a0 a1 a2 a3 x5) (BE a0 a1 a2 a3 x5) := by
 unfold Eo BE
 repeat' (first | with_reducible exact Ap.refl _ | apply LO | apply SN | refine Ap.loop ?_ | refine Ap.bind ?_ ?_ | refine Ap.ite ?_ ?_ | apply Ap.onL | intro _ | split)
noncomputable def F8 (a0 : AA) (a1 : Int) (a2 : (Ar 5 Int)) (a3 : (Sl Int)) : Option (Bool) := Option.bind (FH (Eo a0 a1 a2 a3) 0) (fun o => match o with | .inl w6 => some (w6) | .inr _ => some (true))
theorem PM (a0 : AA) (a1 : Int) (a2 : (Ar 5 Int)) (a3 : (Sl Int)) : Ap (F8 a0 a1 a2 a3) (Bg a0 a1 a2 a3) := by
 unfold F8 Bg
 repeat' (first | with_reducible exact Ap.refl _ | apply MB | refine Ap.loop ?_ | refine Ap.bind ?_ ?_ | refine Ap.ite ?_ ?_ | apply Ap.onL | intro _ | split)
noncomputable def Ce {σ : Type} (rec_ : (Ar 5 Int) → Int → (Ar 5 BW) → AA → Int → (Sl Int) → σ → Option (Bool × σ)) (yf : (Ar 5 Int) → σ → Option (Bool × σ)) (a1 : Int) (a2x : (Ar 5 BW)) (a4xf0 : AA) (a5 : Int) (a6 : (Sl Int)) (v2 : BW) : σ × (Ar 5 Int) × Int → Option ((σ × (Ar 5 Int) × Int) ⊕ ((Bool × σ) ⊕ (σ × (Ar 5 Int))))
 | (x9, yu, xq) => if (decide (xq < (W ((W (v2.High - v2.Low)) + 1)))) then Option.bind (yu.ix a1) fun v20 => if (decide (a1 < 4)) then Option.bind (rec_ (yu.put a1 (W (v2.Low + xq))) (W (a1 + 1)) a2x a4xf0 a5 a6 x9) fun (v27, t28) => if v27 then some (.inl (t28, (yu.put a1 (W (v2.Low + xq))), (W (xq + 1)))) else some (.inr (.inl (false, t28))) else Option.bind (F8 a4xf0 a5 (yu.put a1 (W (v2.Low + xq))) a6) fun v34 => if v34 then Option.bind (yf (yu.put a1 (W (v2.Low + xq))) x9) fun (v42, t43) => if v42 then some (.inl (t43, (yu.put a1 (W (v2.Low + xq))), (W (xq + 1)))) else some (.inr (.inl (false, t43))) else some (.inl (x9, (yu.put a1 (W (v2.Low + xq))), (W (xq + 1)))) else some (.inr (.inr (x9, yu)))
theorem IH {σ : Type} {rec_q rec_ : (Ar 5 Int) → Int → (Ar 5 BW) → AA → Int → (Sl Int) → σ → Option (Bool × σ)} (hrec_ : ∀ y0 y1 y2 y3 y4 y5 y6, Ap (rec_q y0 y1 y2 y3 y4 y5 y6) (rec_ y0 y1 y2 y3 y4 y5 y6)) {yfq yf : (Ar 5 Int) → σ → Option (Bool × σ)} (hyf : ∀ y0 y1, Ap (yfq y0 y1) (yf y0 y1)) (a1 : Int) (a2x : (Ar 5 BW)) (a4xf0 : AA) (a5 : Int) (a6 : (Sl Int)) (v2 : BW) : ∀ z0, Ap (Ce rec_q yfq a1 a2x a4xf0 a5 a6 v2 z0) (Am rec_ yf a1 a2x a4xf0 a5 a6 v2 z0) := by
 rintro ⟨x9, yu, xq⟩
 unfold Ce Am
 dsimp only
 repeat' (first | with_reducible exact Ap.refl _ | apply hrec_ | apply hyf | apply PM | refine Ap.loop ?_ | refine Ap.bind ?_ ?_ | refine Ap.ite ?_ ?_ | apply Ap.onL | intro _ | split)
noncomputable def CH {σ : Type} (yf : (Ar 5 Int) → σ → Option (Bool × σ)) : Nat → (Ar 5 Int) → Int → (Ar 5 BW) → AA → Int → (Sl Int) → σ → Option (Bool × σ)
 | 0, _, _, _, _, _, _, _ => none
 | n + 1, a0, a1, a2x, a4xf0, a5, a6, st => Option.bind (a2x.ix a1) fun v2 => Option.bind (FH (Ce (CH yf n) yf a1 a2x a4xf0 a5 a6 v2) (st, a0, 0)) (fun o => match o with | .inl w12 => some (w12) | .inr (y13, y14) => some ((true, y13)))
theorem JZ {σ : Type} {yfq yf : (Ar 5 Int) → σ → Option (Bool × σ)} (hyf : ∀ y0 y1, Ap (yfq y0 y1) (yf y0 y1)) : ∀ z0 z1 z2 z3 z4 z5 z6 z7, Ap (CH yfq z0 z1 z2 z3 z4 z5 z6 z7) (Aa yf z0 z1 z2 z3 z4 z5 z6 z7) := by
 intro z0
 induction z0 with
 | zero => intros; exact Xo _
 | succ n ih =>
  intros
  unfold CH Aa
  repeat' (first | with_reducible exact Ap.refl _ | apply hyf | apply ih | apply IH | refine Ap.loop ?_ | refine Ap.bind ?_ ?_ | refine Ap.ite ?_ ?_ | apply Ap.onL | intro _ | split)
noncomputable def EO {σ : Type} (yf : (Ar 5 Int) → σ → Option (Bool × σ)) (a1 : AA) (a2 : Int) (a3 : (Sl Int)) (st : σ) : Option (Unit × σ) := Option.bind (a1.VoiceBook.Boys.ix a2) fun v6 => Option.bind (CH yf 64 (⟨[(-1), (-1), (-1), (-1), (-1)], rfl⟩ : (Ar 5 Int)) 0 (⟨[v6.Low, v6.High, v6.Gain, v6.Turn, v6.Break], rfl⟩ : (Ar 5 BW)) a1 a2 a3 st) fun (v14, t15) => some (((), t15))
theorem LR {σ : Type} {yfq yf : (Ar 5 Int) → σ → Option (Bool × σ)} (hyf : ∀ y0 y1, Ap (yfq y0 y1) (yf y0 y1)) (a1 : AA) (a2 : Int) (a3 : (Sl Int)) (st : σ) : Ap (EO yfq a1 a2 a3 st) (BN yf a1 a2 a3 st) := by
 unfold EO BN
 repeat' (first | with_reducible exact Ap.refl _ | apply hyf | apply JZ | refine Ap.loop ?_ | refine Ap.bind ?_ ?_ | refine Ap.ite ?_ ?_ | apply Ap.onL | intro _ | split)
noncomputable def Hq (a0 : VoiceBook) (xq : Int) : ((Ar 5 Int)) → ((Sl (Ar 5 Int)) × (List (List Int × (Sl (Ar 5 Int))))) → Option (Bool × (((Sl (Ar 5 Int)) × (List (List Int × (Sl (Ar 5 Int))))) ⊕ (Unit)))
 | a24, (x25, x26) => Option.bind (Sl.app 40 x25 ([a24])) fun v28 => Option.bind (a24.ix 4) fun v30 => Option.bind (HG a0.Weeks (Sl.cold [v30] : Sl Int)) fun v32 => Option.bind (FH (Cj xq a24 v32) (x26, 0)) (fun y45 => some (true, .inl (v28, y45)))
theorem UG (a0 : VoiceBook) (xq : Int) : ∀ z0 z1, Ap (Hq a0 xq z0 z1) (Dk a0 xq z0 z1) := by
 rintro a24 ⟨x25, x26⟩
 unfold Hq Dk
 dsimp only
 repeat' (first | with_reducible exact Ap.refl _ | apply MV | refine Ap.loop ?_ | refine Ap.bind ?_ ?_ | refine Ap.ite ?_ ?_ | apply Ap.onL | intro _ | split)
noncomputable def Hv (a0 : VoiceBook) (a1 : (Sl Int)) : AA × (List (List Int × (Sl (Ar 5 Int)))) × Int → Option ((AA × (List (List Int × (Sl (Ar 5 Int)))) × Int) ⊕ (AA × (List (List Int × (Sl (Ar 5 Int))))))
 | (x9, yu, xq) => if (decide (xq < a0.Boys.len)) then Option.bind (EO (onL (Hq a0 xq)) x9 xq a1 (.inl ((Sl.nil : (Sl (Ar 5 Int))), yu))) (fun o => match o with | (_, .inl (y55, y56)) => Option.bind (Sl.app 24 x9.truths.unf ([y55])) fun v57 => some (.inl ((AA.mk x9.VoiceBook v57 x9.whole), y56, (W (xq + 1)))) | (_, .inr _) => none) else some (.inr (x9, yu))
theorem Tu (a0 : VoiceBook) (a1 : (Sl Int)) : ∀ z0, Ap (Hv a0 a1 z0) (Ci a0 a1 z0) := by
 rintro ⟨x9, yu, xq⟩
 unfold Hv Ci
 dsimp only
 repeat' (first | with_reducible exact Ap.refl _ | apply LR | apply UG | refine Ap.loop ?_ | refine Ap.bind ?_ ?_ | refine Ap.ite ?_ ?_ | apply Ap.onL | intro _ | split)
noncomputable def IG (a0 : VoiceBook) (a1 : (Sl Int)) : Option (AA) := Option.bind (FH (Hv a0 a1) ((AA.mk a0 (Sl.nil : (Sl (Sl (Ar 5 Int)))) (Mp.nil : (Mp 2 (Sl (Ar 5 Int))))), ([] : List (List Int × (Sl (Ar 5 Int)))), 0)) (fun (y12, y13) => some ((AA.mk y12.VoiceBook y12.truths (Mp.mk y13))))
theorem Pe (a0 : VoiceBook) (a1 : (Sl Int)) : Ap (IG a0 a1) (EY a0 a1) := by
 unfold IG EY
 repeat' (first | with_reducible exact Ap.refl _ | apply Tu | refine Ap.loop ?_ | refine Ap.bind ?_ ?_ | refine Ap.ite ?_ ?_ | apply Ap.onL | intro _ | split)
noncomputable def E2 (a0 : (Sl (Sl (Ar 5 Int)))) : Option (Int) := Option.bind (FH (BH a0) 0) (fun o => match o with | .inl w4 => some (w4) | .inr _ => some ((-1)))
theorem NW (a0 : (Sl (Sl (Ar 5 Int)))) : Ap (E2 a0) (CJ a0) := by
 unfold E2 CJ
 repeat' (first | with_reducible exact Ap.refl _ | refine Ap.loop ?_ | refine Ap.bind ?_ ?_ | refine Ap.ite ?_ ?_ | apply Ap.onL | intro _ | split)
noncomputable def EA (a0 : (Sl (Sl (Ar 5 Int)))) : Option (Bool) := Option.bind (E2 a0) fun v2 => some ((decide (0 ≤ v2)))
theorem KR (a0 : (Sl (Sl (Ar 5 Int)))) : Ap (EA a0) (BX a0) := by
 unfold EA BX
 repeat' (first | with_reducible exact Ap.refl _ | apply NW | refine Ap.loop ?_ | refine Ap.bind ?_ ?_ | refine Ap.ite ?_ ?_ | apply Ap.onL | intro _ | split)
noncomputable def Ek (a0 : AA) : Option (Bool) := Option.bind (EA a0.truths) fun v2 => some ((!v2))
theorem JR (a0 : AA) : Ap (Ek a0) (B7 a0) := by
 unfold Ek B7
 repeat' (first | with_reducible exact Ap.refl _ | apply KR | refine Ap.loop ?_ | refine Ap.bind ?_ ?_ | refine Ap.ite ?_ ?_ | apply Ap.onL | intro _ | split)
noncomputable def L1 (a0 : VoiceBook) : Option (Bool × Int) := Option.bind (HH a0) fun v2 => if (decide (v2 = 0)) then Option.bind (IG a0 (Sl.nil : (Sl Int))) fun v7 => Option.bind (Ek v7) fun v9 => some ((v9, 0)) else some ((false, v2))
theorem bH (a0 : VoiceBook) : Ap (L1 a0) (FM a0) := by
 unfold L1 FM
 repeat' (first | with_reducible exact Ap.refl _ | apply M5 | apply Pe | apply JR | refine Ap.loop ?_ | refine Ap.bind ?_ ?_ | refine Ap.ite ?_ ?_ | apply Ap.onL | intro _ | split)
noncomputable def SA : Option (VoiceBook) := Option.bind (FH IB ((VoiceBook.mk (Sl.nil : (Sl AL)) 2 (Sl.nil : (Sl AK))), 0)) (fun y8 => some (y8))
theorem ae : Ap (SA ) (Ef ) := by
 unfold SA Ef
 repeat' (first | with_reducible exact Ap.refl _ | refine Ap.loop ?_ | refine Ap.bind ?_ ?_ | refine Ap.ite ?_ ?_ | apply Ap.onL | intro _ | split)
noncomputable def Dx (a0 : VoiceBook) (a1 : Bool) : Option (AA × Int) := Option.bind (HH a0) fun v3 => if (decide (v3 = 0)) then if a1 then Option.bind (IG a0 (Sl.nil : (Sl Int))) fun v10 => Option.bind (Ek v10) fun v14 => if v14 then some ((v10, 0)) else some ((v10, 22)) else some (((AA.mk (VoiceBook.mk (Sl.nil : (Sl AL)) 0 (Sl.nil : (Sl AK))) (Sl.nil : (Sl (Sl (Ar 5 Int)))) (Mp.nil : (Mp 2 (Sl (Ar 5 Int))))), 21)) else some (((AA.mk (VoiceBook.mk (Sl.nil : (Sl AL)) 0 (Sl.nil : (Sl AK))) (Sl.nil : (Sl (Sl (Ar 5 Int)))) (Mp.nil : (Mp 2 (Sl (Ar 5 Int))))), v3))
theorem S7 (a0 : VoiceBook) (a1 : Bool) : Ap (Dx a0 a1) (Bc a0 a1) := by
 unfold Dx Bc
 repeat' (first | with_reducible exact Ap.refl _ | apply M5 | apply Pe | apply JR | refine Ap.loop ?_ | refine Ap.bind ?_ ?_ | refine Ap.ite ?_ ?_ | apply Ap.onL | intro _ | split)
noncomputable def Ii (a0 : AA) (a1 : Int) (a2 : (Ar 5 Int)) (a3 : Int) : Option (Int) := Option.bind (a2.ix 3) fun v2 => Option.bind (HG a3 (Sl.cold [v2] : Sl Int)) fun v4 => Option.bind (a2.ix 1) fun v9 => Option.bind (a2.ix 2) fun v11 => Option.bind (a0.VoiceBook.Boys.ix a1) fun v13 => some ((W ((W (v9 + (W (v4 * v11)))) - (W ((W (a3 - v4)) * v13.Loss)))))
theorem Vb (a0 : AA) (a1 : Int) (a2 : (Ar 5 Int)) (a3 : Int) : Ap (Ii a0 a1 a2 a3) (ED a0 a1 a2 a3) := by
 unfold Ii ED
 repeat' (first | with_reducible exact Ap.refl _ | apply MV | refine Ap.loop ?_ | refine Ap.bind ?_ ?_ | refine Ap.ite ?_ ?_ | apply Ap.onL | intro _ | split)
noncomputable def Il (a0 : AA) (a1 : Int) (a2 : (Ar 5 Int)) (a3 : Int) (a4 : Int) : Option (Bool) := Option.bind (if (decide (BU.key a2 = BU.key (⟨[(-1), (-1), (-1), (-1), (-1)], rfl⟩ : (Ar 5 Int)))) then some (false) else Option.bind (a2.ix 4) fun v3 => if (decide (a3 < v3)) then Option.bind (a2.ix 0) fun v6 => Option.bind (Ii a0 a1 a2 a3) fun v9 => some ((AZ a4 v6 v9)) else some (false) : Option (Bool)) fun o11 => some (o11)
theorem Vf (a0 : AA) (a1 : Int) (a2 : (Ar 5 Int)) (a3 : Int) (a4 : Int) : Ap (Il a0 a1 a2 a3 a4) (Da a0 a1 a2 a3 a4) := by
 unfold Il Da
 repeat' (first | with_reducible exact Ap.refl _ | apply Vb | refine Ap.loop ?_ | refine Ap.bind ?_ ?_ | refine Ap.ite ?_ ?_ | apply Ap.onL | intro _ | split)
noncomputable def FO (a0 : AA) (a1 : Int) (a2 : Int) (a3 : Int) : AW × Int → Option ((AW × Int) ⊕ (AW))
 | (yu, xq) => if (decide (xq < (((Mp.get a0.whole (BU.key (AY.mk a1 a2))).getD (Sl.nil : (Sl (Ar 5 Int)))).len))) then Option.bind (((Mp.get a0.whole (BU.key (AY.mk a1 a2))).getD (Sl.nil : (Sl (Ar 5 Int)))).ix xq) fun v17 => Option.bind (Il a0 a1 v17 a2 a3) fun v21 => if v21 then some (.inl ((AW.mk (W (yu.so + 1)) yu.of_), (W (xq + 1)))) else some (.inl (yu, (W (xq + 1)))) else some (.inr yu)
theorem Oe (a0 : AA) (a1 : Int) (a2 : Int) (a3 : Int) : ∀ z0, Ap (FO a0 a1 a2 a3 z0) (BQ a0 a1 a2 a3 z0) := by
 rintro ⟨yu, xq⟩
 unfold FO BQ
 dsimp only
 repeat' (first | with_reducible exact Ap.refl _ | apply Vf | refine Ap.loop ?_ | refine Ap.bind ?_ ?_ | refine Ap.ite ?_ ?_ | apply Ap.onL | intro _ | split)
noncomputable def FD (a0 : AA) (a1 : Int) (a2 : Int) (a3 : Int) : Option (AW) := Option.bind (a0.truths.ix a1) fun v3 => Option.bind (FH (FO a0 a1 a2 a3) ((AW.mk 0 v3.len), 0)) (fun y12 => some (y12))
theorem Jz (a0 : AA) (a1 : Int) (a2 : Int) (a3 : Int) : Ap (FD a0 a1 a2 a3) (CM a0 a1 a2 a3) := by
 unfold FD CM
 repeat' (first | with_reducible exact Ap.refl _ | apply Oe | refine Ap.loop ?_ | refine Ap.bind ?_ ?_ | refine Ap.ite ?_ ?_ | apply Ap.onL | intro _ | split)
noncomputable def Jd (a2 : Int) (a3 : BW) (o10 : AA) (x17 : Int) (x28 : Int) : Option (Int ⊕ ((Unit) ⊕ (Unit))) := if (decide (x28 ≤ a3.High)) then Option.bind (FD o10 x17 a2 x28) fun v33 => if (DI v33) then some (.inl ((W (x28 + 1)))) else some (.inr (.inl ())) else some (.inr (.inr ()))
theorem V6 (a2 : Int) (a3 : BW) (o10 : AA) (x17 : Int) (x28 : Int) : Ap (Jd a2 a3 o10 x17 x28) (DU a2 a3 o10 x17 x28) := by
 unfold Jd DU
 repeat' (first | with_reducible exact Ap.refl _ | apply Jz | refine Ap.loop ?_ | refine Ap.bind ?_ ?_ | refine Ap.ite ?_ ?_ | apply Ap.onL | intro _ | split)
noncomputable def JF (a0 : VoiceBook) (a1 : Int) (a2 : Int) (a3 : BW) (o10 : AA) (x17 : Int) : Option (Int ⊕ ((Int × Int) ⊕ (Unit))) := if (decide (x17 < a0.Boys.len)) then if (decide (x17 = a1)) then some (.inl ((W (x17 + 1)))) else Option.bind (FH (Jd a2 a3 o10 x17) a3.Low) (fun o => match o with | .inl _ => some (.inl ((W (x17 + 1)))) | .inr _ => some (.inr (.inl (x17, 0)))) else some (.inr (.inr ()))
theorem Xu (a0 : VoiceBook) (a1 : Int) (a2 : Int) (a3 : BW) (o10 : AA) (x17 : Int) : Ap (JF a0 a1 a2 a3 o10 x17) (DT a0 a1 a2 a3 o10 x17) := by
 unfold JF DT
 repeat' (first | with_reducible exact Ap.refl _ | apply V6 | refine Ap.loop ?_ | refine Ap.bind ?_ ?_ | refine Ap.ite ?_ ?_ | apply Ap.onL | intro _ | split)
noncomputable def US (a0 : VoiceBook) (a1 : Int) (a2 : Int) (a3 : BW) : Option (Int × Int) := Option.bind (if (CV a0 a1) then if (B8 a0 a2) then Option.bind (Dx a0 (Ah a3 40 40)) fun v4 => some (v4.1, v4.2) else Option.bind (Dx a0 false) fun v6 => some (v6.1, v6.2) else Option.bind (Dx a0 false) fun v8 => some (v8.1, v8.2) : Option (AA × Int)) fun (o10, o11) => if (decide (o11 = 0)) then Option.bind (FH (JF a0 a1 a2 a3 o10) 0) (fun o => match o with | .inl w18 => some (w18) | .inr _ => some ((0, 4))) else some ((0, o11))
theorem gX (a0 : VoiceBook) (a1 : Int) (a2 : Int) (a3 : BW) : Ap (US a0 a1 a2 a3) (FZ a0 a1 a2 a3) := by
 unfold US FZ
 repeat' (first | with_reducible exact Ap.refl _ | apply S7 | apply Xu | refine Ap.loop ?_ | refine Ap.bind ?_ ?_ | refine Ap.ite ?_ ?_ | apply Ap.onL | intro _ | split)
noncomputable def UU (a0 : VoiceBook) (a1 : (Sl Int)) (a2 : (Sl BW)) : Option (BenchBook) := Option.bind (FH (Ed a1 a2) ((BenchBook.mk a0 (Sl.nil : (Sl AI)) 3), 0)) (fun y7 => some (y7))
theorem Na (a0 : VoiceBook) (a1 : (Sl Int)) (a2 : (Sl BW)) : Ap (UU a0 a1 a2) (CQ a0 a1 a2) := by
 unfold UU CQ
 repeat' (first | with_reducible exact Ap.refl _ | refine Ap.loop ?_ | refine Ap.bind ?_ ?_ | refine Ap.ite ?_ ?_ | apply Ap.onL | intro _ | split)
noncomputable def IZ (a0 : BenchBook) : Bool × Int → Option ((Bool × Int) ⊕ (Bool))
 | (yu, xq) => if (decide (xq < a0.Pieces.len)) then Option.bind (a0.Pieces.ix xq) fun v17 => Option.bind (FH (EB v17) ((yu && ((AO v17.Week 0 (W (a0.Voice.Weeks - 1))) && (AO v17.Parts.len 1 3))), 0)) (fun y27 => some (.inl (y27, (W (xq + 1))))) else some (.inr yu)
theorem VY (a0 : BenchBook) : ∀ z0, Ap (IZ a0 z0) (DZ a0 z0) := by
 rintro ⟨yu, xq⟩
 unfold IZ DZ
 dsimp only
 repeat' (first | with_reducible exact Ap.refl _ | refine Ap.loop ?_ | refine Ap.bind ?_ ?_ | refine Ap.ite ?_ ?_ | apply Ap.onL | intro _ | split)
noncomputable def MD (a0 : BenchBook) : Option (Int) := Option.bind (Option.bind (HH a0.Voice) fun v2 => if (decide (v2 = 0)) then if (AO a0.Pieces.len 1 3) then some ((AO a0.Most 1 3)) else some (false) else some (false) : Option (Bool)) fun o6 => Option.bind (FH (IZ a0) (o6, 0)) (fun y12 => if y12 then some (0) else some (70))
theorem ca (a0 : BenchBook) : Ap (MD a0) (Gf a0) := by
 unfold MD Gf
 repeat' (first | with_reducible exact Ap.refl _ | apply M5 | apply VY | refine Ap.loop ?_ | refine Ap.bind ?_ ?_ | refine Ap.ite ?_ ?_ | apply Ap.onL | intro _ | split)
noncomputable def Ge (a0 : AW) : Option (Int) := Option.bind (FH (Au a0) (0, 0)) (fun y7 => some (y7))
theorem QU (a0 : AW) : Ap (Ge a0) (CS a0) := by
 unfold Ge CS
 repeat' (first | with_reducible exact Ap.refl _ | refine Ap.loop ?_ | refine Ap.bind ?_ ?_ | refine Ap.ite ?_ ?_ | apply Ap.onL | intro _ | split)
noncomputable def MZ (a0 : VoiceBook) (a1 : Int) (a2 : Int) (a3 : Int) : Option (Int × Int) := Option.bind (if (CV a0 a1) then if (B8 a0 a2) then Option.bind (Dx a0 (D4 a3)) fun v4 => some (v4.1, v4.2) else Option.bind (Dx a0 false) fun v6 => some (v6.1, v6.2) else Option.bind (Dx a0 false) fun v8 => some (v8.1, v8.2) : Option (AA × Int)) fun (o10, o11) => if (decide (o11 = 0)) then Option.bind (FD o10 a1 a2 a3) fun v16 => Option.bind (Ge v16) fun v18 => some ((v18, 0)) else some ((0, o11))
theorem bA (a0 : VoiceBook) (a1 : Int) (a2 : Int) (a3 : Int) : Ap (MZ a0 a1 a2 a3) (Gj a0 a1 a2 a3) := by
 unfold MZ Gj
 repeat' (first | with_reducible exact Ap.refl _ | apply S7 | apply Jz | apply QU | refine Ap.loop ?_ | refine Ap.bind ?_ ?_ | refine Ap.ite ?_ ?_ | apply Ap.onL | intro _ | split)
noncomputable def FP (a0 : AB) (a2 : Int) (v3 : AI) (v7 : A4) (xq : Int) : Option (Int ⊕ ((Bool) ⊕ (Unit))) := if (decide (xq < (W ((W (v7.Notes.High - v7.Notes.Low)) + 1)))) then Option.bind (MZ a0.BenchBook.Voice a2 v3.Week (W (v7.Notes.Low + xq))) fun v18 => if (if (decide (v18.2 = 0)) then (decide (v18.1 < 2)) else true) then some (.inr (.inl false)) else some (.inl ((W (xq + 1)))) else some (.inr (.inr ()))
theorem Nl (a0 : AB) (a2 : Int) (v3 : AI) (v7 : A4) (xq : Int) : Ap (FP a0 a2 v3 v7 xq) (BP a0 a2 v3 v7 xq) := by
 unfold FP BP
 repeat' (first | with_reducible exact Ap.refl _ | apply bA | refine Ap.loop ?_ | refine Ap.bind ?_ ?_ | refine Ap.ite ?_ ?_ | apply Ap.onL | intro _ | split)
noncomputable def E5 (a0 : AB) (a1 : AG) (a2 : Int) : Option (Bool) := Option.bind (a0.BenchBook.Pieces.ix a1.piece) fun v3 => Option.bind (v3.Parts.ix a1.part) fun v7 => Option.bind (FH (FP a0 a2 v3 v7) 0) (fun o => match o with | .inl w12 => some (w12) | .inr _ => some (true))
theorem J6 (a0 : AB) (a1 : AG) (a2 : Int) : Ap (E5 a0 a1 a2) (B0 a0 a1 a2) := by
 unfold E5 B0
 repeat' (first | with_reducible exact Ap.refl _ | apply Nl | refine Ap.loop ?_ | refine Ap.bind ?_ ?_ | refine Ap.ite ?_ ?_ | apply Ap.onL | intro _ | split)
noncomputable def Gm (a0 : BenchBook) (x19 : Int) (x30 : Int) : (List (List Int × (Sl Int))) × Int → Option (((List (List Int × (Sl Int))) × Int) ⊕ (List (List Int × (Sl Int))))
 | (x40, x41) => if (decide (x41 < a0.Voice.Boys.len)) then Option.bind (if (G5 x41) then some (true) else Option.bind (E5 (AB.mk a0 (Mp.nil : (Mp 2 (Sl Int)))) (AG.mk x19 x30) x41) fun v50 => some ((!v50)) : Option (Bool)) fun o53 => if o53 then some (.inl (x40, (W (x41 + 1)))) else Option.bind (Sl.app 8 (NJ (Sl.nil : (Sl Int)) x40 (BU.key (AG.mk x19 x30))) ([x41])) fun v59 => some (.inl ((EM x40 (BU.key (AG.mk x19 x30)) v59), (W (x41 + 1)))) else some (.inr x40)
theorem P7 (a0 : BenchBook) (x19 : Int) (x30 : Int) : ∀ z0, Ap (Gm a0 x19 x30 z0) (EQ a0 x19 x30 z0) := by
 rintro ⟨x40, x41⟩
 unfold Gm EQ
 dsimp only
 repeat' (first | with_reducible exact Ap.refl _ | apply J6 | refine Ap.loop ?_ | refine Ap.bind ?_ ?_ | refine Ap.ite ?_ ?_ | apply Ap.onL | intro _ | split)
noncomputable def Gg (a0 : BenchBook) (x19 : Int) (v25 : AI) : (List (List Int × (Sl Int))) × Int → Option (((List (List Int × (Sl Int))) × Int) ⊕ (List (List Int × (Sl Int))))
 | (x29, x30) => if (decide (x30 < v25.Parts.len)) then Option.bind (FH (Gm a0 x19 x30) (x29, 0)) (fun y42 => some (.inl (y42, (W (x30 + 1))))) else some (.inr x29)
theorem Qi (a0 : BenchBook) (x19 : Int) (v25 : AI) : ∀ z0, Ap (Gg a0 x19 v25 z0) (EW a0 x19 v25 z0) := by
 rintro ⟨x29, x30⟩
 unfold Gg EW
 dsimp only
 repeat' (first | with_reducible exact Ap.refl _ | apply P7 | refine Ap.loop ?_ | refine Ap.bind ?_ ?_ | refine Ap.ite ?_ ?_ | apply Ap.onL | intro _ | split)
noncomputable def GZ (a0 : BenchBook) : (List (List Int × (Sl Int))) × Int → Option (((List (List Int × (Sl Int))) × Int) ⊕ (List (List Int × (Sl Int))))
 | (x18, x19) => if (decide (x19 < a0.Pieces.len)) then Option.bind (a0.Pieces.ix x19) fun v25 => Option.bind (FH (Gg a0 x19 v25) (x18, 0)) (fun y31 => some (.inl (y31, (W (x19 + 1))))) else some (.inr x18)
theorem QH (a0 : BenchBook) : ∀ z0, Ap (GZ a0 z0) (EU a0 z0) := by
 rintro ⟨x18, x19⟩
 unfold GZ EU
 dsimp only
 repeat' (first | with_reducible exact Ap.refl _ | apply Qi | refine Ap.loop ?_ | refine Ap.bind ?_ ?_ | refine Ap.ite ?_ ?_ | apply Ap.onL | intro _ | split)
noncomputable def Ia (a0 : BenchBook) : Option (AB) := Option.bind (FH (GZ a0) ((EM ([] : List (List Int × (Sl Int))) (BU.key (AG.mk (-1) (-1))) (Sl.nil : (Sl Int))), 0)) (fun y20 => some ((AB.mk a0 (Mp.mk y20))))
theorem U8 (a0 : BenchBook) : Ap (Ia a0) (Ey a0) := by
 unfold Ia Ey
 repeat' (first | with_reducible exact Ap.refl _ | apply QH | refine Ap.loop ?_ | refine Ap.bind ?_ ?_ | refine Ap.ite ?_ ?_ | apply Ap.onL | intro _ | split)
noncomputable def Ff (a0 : BenchBook) (a1 : Bool) : Option (AB × Int) := Option.bind (MD a0) fun v3 => if (decide (v3 = 0)) then if a1 then Option.bind (L1 a0.Voice) fun v10 => if v10.1 then Option.bind (Ia a0) fun v15 => some ((v15, 0)) else some (((AB.mk (BenchBook.mk (VoiceBook.mk (Sl.nil : (Sl AL)) 0 (Sl.nil : (Sl AK))) (Sl.nil : (Sl AI)) 0) (Mp.nil : (Mp 2 (Sl Int)))), 72)) else some (((AB.mk (BenchBook.mk (VoiceBook.mk (Sl.nil : (Sl AL)) 0 (Sl.nil : (Sl AK))) (Sl.nil : (Sl AI)) 0) (Mp.nil : (Mp 2 (Sl Int)))), 71)) else some (((AB.mk (BenchBook.mk (VoiceBook.mk (Sl.nil : (Sl AL)) 0 (Sl.nil : (Sl AK))) (Sl.nil : (Sl AI)) 0) (Mp.nil : (Mp 2 (Sl Int)))), v3))
theorem MP (a0 : BenchBook) (a1 : Bool) : Ap (Ff a0 a1) (Be a0 a1) := by
 unfold Ff Be
 repeat' (first | with_reducible exact Ap.refl _ | apply ca | apply bH | apply U8 | refine Ap.loop ?_ | refine Ap.bind ?_ ?_ | refine Ap.ite ?_ ?_ | apply Ap.onL | intro _ | split)
noncomputable def Wa (a0 : BenchBook) (a1 : Int) (a2 : Int) : Option ((Sl Int) × Int) := Option.bind (if (BI a0 a1) then Option.bind (a0.Pieces.ix a1) fun v3 => Option.bind (Ff a0 (AO a2 0 (W (v3.Parts.len - 1)))) fun v5 => some (v5.1, v5.2) else Option.bind (Ff a0 false) fun v7 => some (v7.1, v7.2) : Option (AB × Int)) fun (o9, o10) => if (decide (o10 = 0)) then Option.bind (((Mp.get o9.able (BU.key (AG.mk a1 a2))).getD (Sl.nil : (Sl Int))).sub3 none (((Mp.get o9.able (BU.key (AG.mk a1 a2))).getD (Sl.nil : (Sl Int))).len)) fun v18 => some ((v18, 0)) else some (((Sl.nil : (Sl Int)), o10))
theorem hT (a0 : BenchBook) (a1 : Int) (a2 : Int) : Ap (Wa a0 a1 a2) (GL a0 a1 a2) := by
 unfold Wa GL
 repeat' (first | with_reducible exact Ap.refl _ | apply MP | refine Ap.loop ?_ | refine Ap.bind ?_ ?_ | refine Ap.ite ?_ ?_ | apply Ap.onL | intro _ | split)
noncomputable def GH (a0 : AB) (a1 : (Sl Int)) : (Sl Int) × Int → Option (((Sl Int) × Int) ⊕ (Sl Int))
 | (x4, x5) => if (decide (x5 < a0.BenchBook.Pieces.len)) then Option.bind (F3 a1 x5) fun v12 => if v12 then some (.inl (x4, (W (x5 + 1)))) else Option.bind (Sl.app 8 x4 ([x5])) fun v17 => some (.inl (v17, (W (x5 + 1)))) else some (.inr x4)
theorem PI (a0 : AB) (a1 : (Sl Int)) : ∀ z0, Ap (GH a0 a1 z0) (Bi a0 a1 z0) := by
 rintro ⟨x4, x5⟩
 unfold GH Bi
 dsimp only
 repeat' (first | with_reducible exact Ap.refl _ | apply LO | refine Ap.loop ?_ | refine Ap.bind ?_ ?_ | refine Ap.ite ?_ ?_ | apply Ap.onL | intro _ | split)
noncomputable def EP (a0 : AB) (a1 : (Sl Int)) : Option (Sl Int) := Option.bind (FH (GH a0 a1) ((Sl.nil : (Sl Int)), 0)) (fun y6 => some (y6))
theorem Hj (a0 : AB) (a1 : (Sl Int)) : Ap (EP a0 a1) (Bv a0 a1) := by
 unfold EP Bv
 repeat' (first | with_reducible exact Ap.refl _ | apply PI | refine Ap.loop ?_ | refine Ap.bind ?_ ?_ | refine Ap.ite ?_ ?_ | apply Ap.onL | intro _ | split)
noncomputable def FV (a0 : AB) (a1 : (Sl Int)) (a2 : Int) : (Sl AD) × Int → Option (((Sl AD) × Int) ⊕ (Sl AD))
 | (x4, x5) => if (decide (x5 < a1.len)) then Option.bind (a1.ix x5) fun v11 => Option.bind (a0.BenchBook.Pieces.ix v11) fun v14 => Option.bind (v14.Parts.sub none (some (min a2 v14.Parts.len))) fun v16 => Option.bind (FH (B2 v11 v16) (x4, 0)) (fun y23 => some (.inl (y23, (W (x5 + 1))))) else some (.inr x4)
theorem Ni (a0 : AB) (a1 : (Sl Int)) (a2 : Int) : ∀ z0, Ap (FV a0 a1 a2 z0) (BR a0 a1 a2 z0) := by
 rintro ⟨x4, x5⟩
 unfold FV BR
 dsimp only
 repeat' (first | with_reducible exact Ap.refl _ | refine Ap.loop ?_ | refine Ap.bind ?_ ?_ | refine Ap.ite ?_ ?_ | apply Ap.onL | intro _ | split)
noncomputable def E6 (a0 : AB) (a1 : (Sl Int)) (a2 : Int) : Option (Sl AD) := Option.bind (FH (FV a0 a1 a2) ((Sl.nil : (Sl AD)), 0)) (fun y6 => some (y6))
theorem J8 (a0 : AB) (a1 : (Sl Int)) (a2 : Int) : Ap (E6 a0 a1 a2) (BV a0 a1 a2) := by
 unfold E6 BV
 repeat' (first | with_reducible exact Ap.refl _ | apply Ni | refine Ap.loop ?_ | refine Ap.bind ?_ ?_ | refine Ap.ite ?_ ?_ | apply Ap.onL | intro _ | split)
noncomputable def GG (a0 : (Sl AC)) (a1c0x : AD) (a1c1x : Int) : Option (Int) := Option.bind (FH (A3 a0 a1c0x a1c1x) 0) (fun o => match o with | .inl w4 => some (w4) | .inr _ => some ((-1)))
theorem PL (a0 : (Sl AC)) (a1c0x : AD) (a1c1x : Int) : Ap (GG a0 a1c0x a1c1x) (C6 a0 a1c0x a1c1x) := by
 unfold GG C6
 repeat' (first | with_reducible exact Ap.refl _ | refine Ap.loop ?_ | refine Ap.bind ?_ ?_ | refine Ap.ite ?_ ?_ | apply Ap.onL | intro _ | split)
noncomputable def Eg (a0 : (Sl AC)) (a1c0x : AD) (a1c1x : Int) : Option (Bool) := Option.bind (GG a0 a1c0x a1c1x) fun v2 => some ((decide (0 ≤ v2)))
theorem MW (a0 : (Sl AC)) (a1c0x : AD) (a1c1x : Int) : Ap (Eg a0 a1c0x a1c1x) (BF a0 a1c0x a1c1x) := by
 unfold Eg BF
 repeat' (first | with_reducible exact Ap.refl _ | apply PL | refine Ap.loop ?_ | refine Ap.bind ?_ ?_ | refine Ap.ite ?_ ?_ | apply Ap.onL | intro _ | split)
noncomputable def Dn {σ : Type} (rec_ : (Sl AC) → (Sl AD) → (Ar 24 Int) → AB → σ → Option (Bool × σ)) (a0 : (Sl AC)) (a1 : (Sl AD)) (a2 : (Ar 24 Int)) (a5 : AB) (v18 : AD) : σ × Int → Option ((σ × Int) ⊕ ((Bool × σ) ⊕ (σ)))
 | (x24, x25) => if (decide (x25 < (((Mp.get a5.able (BU.key v18.at_)).getD (Sl.nil : (Sl Int))).len))) then Option.bind (((Mp.get a5.able (BU.key v18.at_)).getD (Sl.nil : (Sl Int))).ix x25) fun v32 => Option.bind (a5.BenchBook.Pieces.ix v18.at_.piece) fun v35 => Option.bind (Option.bind (Eg a0 v18 v32) fun v38 => if v38 then some (true) else if (decide (BU.key a2 = BU.key Bm)) then some (false) else Option.bind (a2.ix (W ((W (v35.Week * 4)) + v32))) fun v43 => some ((decide (v43 = a5.BenchBook.Most))) : Option (Bool)) fun o45 => if o45 then some (.inl (x24, (W (x25 + 1)))) else Option.bind (a2.ix (W ((W (v35.Week * 4)) + v32))) fun v53 => Option.bind (a1.sub (some 1) none) fun v59 => Option.bind (Sl.app 32 (Sl.hot [(AD.mk v18.at_ (W (v18.many - 1)) (W (x25 + 1)))] : Sl AD) v59.l) fun v61 => Option.bind (a0.sub3 none a0.len) fun v66 => Option.bind (Sl.app 24 v66 ([(AC.mk v18.at_.piece v18.at_.part v32)])) fun v68 => Option.bind (rec_ v68 v61 (a2.put (W ((W (v35.Week * 4)) + v32)) (W (v53 + 1))) a5 x24) fun (v70, t71) => if v70 then some (.inl (t71, (W (x25 + 1)))) else some (.inr (.inl (false, t71))) else some (.inr (.inr x24))
theorem JI {σ : Type} {rec_q rec_ : (Sl AC) → (Sl AD) → (Ar 24 Int) → AB → σ → Option (Bool × σ)} (hrec_ : ∀ y0 y1 y2 y3 y4, Ap (rec_q y0 y1 y2 y3 y4) (rec_ y0 y1 y2 y3 y4)) (a0 : (Sl AC)) (a1 : (Sl AD)) (a2 : (Ar 24 Int)) (a5 : AB) (v18 : AD) : ∀ z0, Ap (Dn rec_q a0 a1 a2 a5 v18 z0) (Ag rec_ a0 a1 a2 a5 v18 z0) := by
 rintro ⟨x24, x25⟩
 unfold Dn Ag
 dsimp only
 repeat' (first | with_reducible exact Ap.refl _ | apply hrec_ | apply MW | refine Ap.loop ?_ | refine Ap.bind ?_ ?_ | refine Ap.ite ?_ ?_ | apply Ap.onL | intro _ | split)
noncomputable def B6 {σ : Type} (yf : (Sl AC) → σ → Option (Bool × σ)) : Nat → (Sl AC) → (Sl AD) → (Ar 24 Int) → AB → σ → Option (Bool × σ)
 | 0, _, _, _, _, _ => none
 | n + 1, a0, a1, a2, a5, st => if (decide (a1.len = 0)) then Option.bind (yf a0 st) fun (v4, t5) => some ((v4, t5)) else Option.bind (a1.ix 0) fun v8 => if (decide (v8.many = 0)) then Option.bind (a1.sub (some 1) none) fun v12 => Option.bind ((B6 yf n) a0 v12 a2 a5 st) fun (v14, t15) => some ((v14, t15)) else Option.bind (a1.ix 0) fun v18 => Option.bind (FH (Dn (B6 yf n) a0 a1 a2 a5 v18) (st, v18.from_)) (fun o => match o with | .inl w26 => some (w26) | .inr y27 => some ((true, y27)))
theorem LK {σ : Type} {yfq yf : (Sl AC) → σ → Option (Bool × σ)} (hyf : ∀ y0 y1, Ap (yfq y0 y1) (yf y0 y1)) : ∀ z0 z1 z2 z3 z4 z5, Ap (B6 yfq z0 z1 z2 z3 z4 z5) (AU yf z0 z1 z2 z3 z4 z5) := by
 intro z0
 induction z0 with
 | zero => intros; exact Xo _
 | succ n ih =>
  intros
  unfold B6 AU
  repeat' (first | with_reducible exact Ap.refl _ | apply hyf | apply ih | apply JI | refine Ap.loop ?_ | refine Ap.bind ?_ ?_ | refine Ap.ite ?_ ?_ | apply Ap.onL | intro _ | split)
noncomputable def Dz {σ : Type} (yf : (Sl AC) → σ → Option (Bool × σ)) (a1 : AB) (a2 : (Sl AD)) (st : σ) : Option (Unit × σ) := Option.bind (B6 yf 64 (Sl.nil : (Sl AC)) a2 Bm a1 st) fun (v5, t6) => some (((), t6))
theorem IL {σ : Type} {yfq yf : (Sl AC) → σ → Option (Bool × σ)} (hyf : ∀ y0 y1, Ap (yfq y0 y1) (yf y0 y1)) (a1 : AB) (a2 : (Sl AD)) (st : σ) : Ap (Dz yfq a1 a2 st) (BO yf a1 a2 st) := by
 unfold Dz BO
 repeat' (first | with_reducible exact Ap.refl _ | apply hyf | apply LK | refine Ap.loop ?_ | refine Ap.bind ?_ ?_ | refine Ap.ite ?_ ?_ | apply Ap.onL | intro _ | split)
noncomputable def HM (a0 : AB) (a1 : (Sl AD)) : Option ((Sl AC) × Bool) := Option.bind (Dz (onL (CW)) a0 a1 (.inl ())) (fun o => match o with | (_, .inl _) => some (((Sl.nil : (Sl AC)), false)) | (_, .inr y6) => some ((y6, true)))
theorem S0 (a0 : AB) (a1 : (Sl AD)) : Ap (HM a0 a1) (BS a0 a1) := by
 unfold HM BS
 repeat' (first | with_reducible exact Ap.refl _ | apply IL | refine Ap.loop ?_ | refine Ap.bind ?_ ?_ | refine Ap.ite ?_ ?_ | apply Ap.onL | intro _ | split)
noncomputable def C2 : Nat → (Sl Int) → Int → AB → Option (T3 (Sl Int) (Sl AC) Bool)
 | 0, _, _, _ => none
 | n + 1, a0, a1, a2x => if (decide (a0.len = a1)) then Option.bind (EP a2x a0) fun v5 => Option.bind (E6 a2x v5 3) fun v7 => Option.bind (HM a2x v7) fun v9 => some ((T3.mk a0 v9.1 v9.2)) else Option.bind (if (decide (0 < a0.len)) then Option.bind (a0.ix (W (a0.len - 1))) fun v21 => some (W (v21 + 1)) else some (0) : Option (Int)) (fun y18 => Option.bind (FH (Aw (C2 n) a0 a1 a2x) y18) (fun o => match o with | .inl w26 => some (w26) | .inr _ => some ((T3.mk (Sl.nil : (Sl Int)) (Sl.nil : (Sl AC)) false))))
theorem Kv : ∀ z0 z1 z2 z3, Ap (C2  z0 z1 z2 z3) (Ac  z0 z1 z2 z3) := by
 intro z0
 induction z0 with
 | zero => intros; exact Xo _
 | succ n ih =>
  intros
  unfold C2 Ac
  repeat' (first | with_reducible exact Ap.refl _ | apply ih | apply Hj | apply J8 | apply S0 | refine Ap.loop ?_ | refine Ap.bind ?_ ?_ | refine Ap.ite ?_ ?_ | apply Ap.onL | intro _ | split)
noncomputable def E3 (a0 : AB) (x6 : Int) : Option (Int ⊕ (((Sl Int) × (Sl AC)) ⊕ (Unit))) := if (decide (x6 < a0.BenchBook.Pieces.len)) then Option.bind (C2 64 (Sl.nil : (Sl Int)) x6 a0) fun v13 => if v13.c then some (.inr (.inl (v13.a, v13.b))) else some (.inl ((W (x6 + 1)))) else some (.inr (.inr ()))
theorem NT (a0 : AB) (x6 : Int) : Ap (E3 a0 x6) (A0 a0 x6) := by
 unfold E3 A0
 repeat' (first | with_reducible exact Ap.refl _ | apply Kv | refine Ap.loop ?_ | refine Ap.bind ?_ ?_ | refine Ap.ite ?_ ?_ | apply Ap.onL | intro _ | split)
noncomputable def Ei (a0 : AB) : Option ((Sl Int) × (Sl AC)) := Option.bind (FH (E3 a0) 0) (fun o => match o with | .inl w7 => some (w7) | .inr _ => Option.bind (EP a0 (Sl.nil : (Sl Int))) fun v25 => some ((v25, (Sl.nil : (Sl AC)))))
theorem Jm (a0 : AB) : Ap (Ei a0) (BM a0) := by
 unfold Ei BM
 repeat' (first | with_reducible exact Ap.refl _ | apply NT | apply Hj | refine Ap.loop ?_ | refine Ap.bind ?_ ?_ | refine Ap.ite ?_ ?_ | apply Ap.onL | intro _ | split)
noncomputable def GE (a0 : BenchBook) (a1s0c0x : Int) (x19 : Int) (x30 : Int) : (List (List Int × (Sl Int))) × Int → Option (((List (List Int × (Sl Int))) × Int) ⊕ (List (List Int × (Sl Int))))
 | (x40, x41) => if (decide (x41 < a0.Voice.Boys.len)) then Option.bind (if (EV x41 a1s0c0x) then some (true) else Option.bind (E5 (AB.mk a0 (Mp.nil : (Mp 2 (Sl Int)))) (AG.mk x19 x30) x41) fun v50 => some ((!v50)) : Option (Bool)) fun o53 => if o53 then some (.inl (x40, (W (x41 + 1)))) else Option.bind (Sl.app 8 (NJ (Sl.nil : (Sl Int)) x40 (BU.key (AG.mk x19 x30))) ([x41])) fun v59 => some (.inl ((EM x40 (BU.key (AG.mk x19 x30)) v59), (W (x41 + 1)))) else some (.inr x40)
theorem PP (a0 : BenchBook) (a1s0c0x : Int) (x19 : Int) (x30 : Int) : ∀ z0, Ap (GE a0 a1s0c0x x19 x30 z0) (D5 a0 a1s0c0x x19 x30 z0) := by
 rintro ⟨x40, x41⟩
 unfold GE D5
 dsimp only
 repeat' (first | with_reducible exact Ap.refl _ | apply J6 | refine Ap.loop ?_ | refine Ap.bind ?_ ?_ | refine Ap.ite ?_ ?_ | apply Ap.onL | intro _ | split)
noncomputable def F7 (a0 : BenchBook) (a1s0c0x : Int) (x19 : Int) (v25 : AI) : (List (List Int × (Sl Int))) × Int → Option (((List (List Int × (Sl Int))) × Int) ⊕ (List (List Int × (Sl Int))))
 | (x29, x30) => if (decide (x30 < v25.Parts.len)) then Option.bind (FH (GE a0 a1s0c0x x19 x30) (x29, 0)) (fun y42 => some (.inl (y42, (W (x30 + 1))))) else some (.inr x29)
theorem PN (a0 : BenchBook) (a1s0c0x : Int) (x19 : Int) (v25 : AI) : ∀ z0, Ap (F7 a0 a1s0c0x x19 v25 z0) (D8 a0 a1s0c0x x19 v25 z0) := by
 rintro ⟨x29, x30⟩
 unfold F7 D8
 dsimp only
 repeat' (first | with_reducible exact Ap.refl _ | apply PP | refine Ap.loop ?_ | refine Ap.bind ?_ ?_ | refine Ap.ite ?_ ?_ | apply Ap.onL | intro _ | split)
noncomputable def GF (a0 : BenchBook) (a1s0c0x : Int) : (List (List Int × (Sl Int))) × Int → Option (((List (List Int × (Sl Int))) × Int) ⊕ (List (List Int × (Sl Int))))
 | (x18, x19) => if (decide (x19 < a0.Pieces.len)) then Option.bind (a0.Pieces.ix x19) fun v25 => Option.bind (FH (F7 a0 a1s0c0x x19 v25) (x18, 0)) (fun y31 => some (.inl (y31, (W (x19 + 1))))) else some (.inr x18)
theorem PK (a0 : BenchBook) (a1s0c0x : Int) : ∀ z0, Ap (GF a0 a1s0c0x z0) (D1 a0 a1s0c0x z0) := by
 rintro ⟨x18, x19⟩
 unfold GF D1
 dsimp only
 repeat' (first | with_reducible exact Ap.refl _ | apply PN | refine Ap.loop ?_ | refine Ap.bind ?_ ?_ | refine Ap.ite ?_ ?_ | apply Ap.onL | intro _ | split)
noncomputable def Hh (a0 : BenchBook) (a1s0c0x : Int) : Option (AB) := Option.bind (FH (GF a0 a1s0c0x) ((EM ([] : List (List Int × (Sl Int))) (BU.key (AG.mk (-1) (-1))) (Sl.nil : (Sl Int))), 0)) (fun y20 => some ((AB.mk a0 (Mp.mk y20))))
theorem TK (a0 : BenchBook) (a1s0c0x : Int) : Ap (Hh a0 a1s0c0x) (ER a0 a1s0c0x) := by
 unfold Hh ER
 repeat' (first | with_reducible exact Ap.refl _ | apply PK | refine Ap.loop ?_ | refine Ap.bind ?_ ?_ | refine Ap.ite ?_ ?_ | apply Ap.onL | intro _ | split)
noncomputable def M9 (a0 : Int) (a1 : (Sl Int)) : Option (Int) := Option.bind (FH (IC a1) (a0, 0)) (fun y5 => some (y5))
theorem af (a0 : Int) (a1 : (Sl Int)) : Ap (M9 a0 a1) (Hz a0 a1) := by
 unfold M9 Hz
 repeat' (first | with_reducible exact Ap.refl _ | refine Ap.loop ?_ | refine Ap.bind ?_ ?_ | refine Ap.ite ?_ ?_ | apply Ap.onL | intro _ | split)
noncomputable def JW (a0 : BenchBook) (v7 : ((Sl Int) × (Sl AC))) : (Sl Int) × Int → Option (((Sl Int) × Int) ⊕ (Sl Int))
 | (yI, x13) => if (decide (x13 < a0.Voice.Boys.len)) then Option.bind (Hh a0 x13) fun v20 => Option.bind (Ei v20) fun v24 => Option.bind (M9 v7.1.len (Sl.cold [v24.1.len] : Sl Int)) fun v33 => if (decide (v33 < v24.1.len)) then Option.bind (Sl.app 8 yI ([x13])) fun v37 => some (.inl (v37, (W (x13 + 1)))) else some (.inl (yI, (W (x13 + 1)))) else some (.inr yI)
theorem W0 (a0 : BenchBook) (v7 : ((Sl Int) × (Sl AC))) : ∀ z0, Ap (JW a0 v7 z0) (D6 a0 v7 z0) := by
 rintro ⟨yI, x13⟩
 unfold JW D6
 dsimp only
 repeat' (first | with_reducible exact Ap.refl _ | apply TK | apply Jm | apply af | refine Ap.loop ?_ | refine Ap.bind ?_ ?_ | refine Ap.ite ?_ ?_ | apply Ap.onL | intro _ | split)
noncomputable def UJ (a0 : BenchBook) : Option ((Sl Int) × Int) := Option.bind (Ff a0 true) fun v2 => if (decide (v2.2 = 0)) then Option.bind (Ei v2.1) fun v7 => Option.bind (FH (JW a0 v7) ((Sl.nil : (Sl Int)), 0)) (fun y14 => Option.bind (y14.sub3 none y14.len) fun v43 => some ((v43, 0))) else some (((Sl.nil : (Sl Int)), v2.2))
theorem eq (a0 : BenchBook) : Ap (UJ a0) (Fe a0) := by
 unfold UJ Fe
 repeat' (first | with_reducible exact Ap.refl _ | apply MP | apply Jm | apply W0 | refine Ap.loop ?_ | refine Ap.bind ?_ ?_ | refine Ap.ite ?_ ?_ | apply Ap.onL | intro _ | split)
noncomputable def UO (a0 : BenchBook) : Option (Int × Int) := Option.bind (Ff a0 true) fun v2 => if (decide (v2.2 = 0)) then Option.bind (EP v2.1 (Sl.nil : (Sl Int))) fun v8 => Option.bind (E6 v2.1 v8 3) fun v10 => Option.bind (Dz (onL (Fq)) v2.1 v10 (.inl 0)) (fun o => match o with | (_, .inl y19) => some ((y19, 0)) | (_, .inr _) => none) else some ((0, v2.2))
theorem fp (a0 : BenchBook) : Ap (UO a0) (FX a0) := by
 unfold UO FX
 repeat' (first | with_reducible exact Ap.refl _ | apply MP | apply Hj | apply J8 | apply IL | refine Ap.loop ?_ | refine Ap.bind ?_ ?_ | refine Ap.ite ?_ ?_ | apply Ap.onL | intro _ | split)
noncomputable def SZ (a0 : (Sl Int)) : Option (Ak) := Option.bind (FH (H7 a0) ((Ak.mk 1 (Sl.nil : (Sl BW)) 0 255 0 (Sl.nil : (Sl I7))), 0)) (fun y8 => some (y8))
theorem dA (a0 : (Sl Int)) : Ap (SZ a0) (Gi a0) := by
 unfold SZ Gi
 repeat' (first | with_reducible exact Ap.refl _ | refine Ap.loop ?_ | refine Ap.bind ?_ ?_ | refine Ap.ite ?_ ?_ | apply Ap.onL | intro _ | split)
noncomputable def Q0 (a0 : (Sl Int)) (a1 : (Sl Int)) : Option (Bool) := Option.bind (FH (Br a0 a1) ((decide (a0.len = a1.len)), 0)) (fun y6 => some (y6))
theorem Sv (a0 : (Sl Int)) (a1 : (Sl Int)) : Ap (Q0 a0 a1) (CG a0 a1) := by
 unfold Q0 CG
 repeat' (first | with_reducible exact Ap.refl _ | refine Ap.loop ?_ | refine Ap.bind ?_ ?_ | refine Ap.ite ?_ ?_ | apply Ap.onL | intro _ | split)
end Go.Lf
