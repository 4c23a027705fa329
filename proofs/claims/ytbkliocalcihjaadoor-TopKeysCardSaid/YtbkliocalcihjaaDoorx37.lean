/- A part of the proof. -/
import Derived.Test.YtbkliocalcihjaaDoorx22
set_option linter.all false
set_option maxRecDepth 100000
namespace Go.Lf
open Go
structure Ap {α : Type} (a b : Option α) : Prop where
 of : ∀ r, a = some r → b = some r
theorem Ap.refl {α : Type} (a : Option α) : Ap a a := ⟨fun _ h => h⟩
theorem gg {α : Type} (b : Option α) : Ap none b := ⟨fun _ h => by cases h⟩
theorem Ap.bind {α β : Type} {a b : Option α} {f g : α → Option β} (h : Ap a b) (k : ∀ x, Ap (f x) (g x)) : Ap (a.bind f) (b.bind g) := by
 constructor
 intro r hr
 cases a with
 | none => cases hr
 | some x => rw [h.of x rfl]; exact (k x).of r hr
theorem Ap.ite {α : Type} {c : Bool} {a b a' b' : Option α} (h : Ap a b) (k : Ap a' b') : Ap (if c = true then a else a') (if c = true then b else b') := by
 split
 ·exact h
 ·exact k
def Gx {σ ρ : Type} (f : σ → Option (σ ⊕ ρ)) (x : σ) : Option ρ := turns f 1000000 x
theorem Ap.turns {σ ρ : Type} {f g : σ → Option (σ ⊕ ρ)} (h : ∀ x, Ap (f x) (g x)) : ∀ (n : Nat) (x : σ), Ap (turns f n x) (turns g n x)
 | 0, x => gg _
 | n + 1, x => by
  constructor
  intro r hr
  simp only [Go.Lf.turns] at hr ⊢
  cases hf : f x with
  | none => rw [hf] at hr; cases hr
  | some y =>
   rw [hf] at hr
   rw [(h x).of y hf]
   cases y with
   | inl z => exact (Ap.turns h n z).of r hr
   | inr z => exact hr
theorem Ap.loop {σ ρ : Type} {f g : σ → Option (σ ⊕ ρ)} {x : σ} (h : ∀ x, Ap (f x) (g x)) : Ap (Gx f x) (Loop g x) := ⟨fun r hr => ND.mpr ⟨_, (Ap.turns h _ x).of r hr⟩⟩
theorem Ap.onL {α τ X : Type} {F G : α → τ → Option (Bool × (τ ⊕ X))} (h : ∀ x t, Ap (F x t) (G x t)) (x : α) (st : τ ⊕ X) : Ap (onL F x st) (Go.Lf.onL G x st) := by
 cases st with
 | inl t => exact h x t
 | inr _ => exact gg _
noncomputable def FD (a0 : VoiceBook) : Option (Int) := Option.bind (Gx (Dh a0) (((Ab a0.Boys.len 1 4) && ((Ab a0.Weeks 1 6) && (decide (a0.Trials.len ≤ 6)))), 0)) (fun y9 => Option.bind (Gx (Dj a0) (y9, 0)) (fun y33 => if y33 then some (0) else some (20)))
theorem IP (a0 : VoiceBook) : Ap (FD a0) (Bo a0) := by
 unfold FD Bo
 repeat' (first | with_reducible exact Ap.refl _ | refine Ap.loop ?_ | refine Ap.bind ?_ ?_ | refine Ap.ite ?_ ?_ | apply Ap.onL | intro _ | split)
noncomputable def BI (a0 : (Sl AC)) (a1c0x : OrganBook) : Option (Int) := Option.bind (Gx (AY a0 a1c0x) 0) (fun o => match o with | .inl w4 => some (w4) | .inr _ => some ((-1)))
theorem En (a0 : (Sl AC)) (a1c0x : OrganBook) : Ap (BI a0 a1c0x) (Am a0 a1c0x) := by
 unfold BI Am
 repeat' (first | with_reducible exact Ap.refl _ | refine Ap.loop ?_ | refine Ap.bind ?_ ?_ | refine Ap.ite ?_ ?_ | apply Ap.onL | intro _ | split)
noncomputable def BA (a0 : (Sl AC)) (a1c0x : OrganBook) : Option (Bool) := Option.bind (BI a0 a1c0x) fun v2 => some ((decide (0 ≤ v2)))
theorem EB (a0 : (Sl AC)) (a1c0x : OrganBook) : Ap (BA a0 a1c0x) (AX a0 a1c0x) := by
 unfold BA AX
 repeat' (first | with_reducible exact Ap.refl _ | apply En | refine Ap.loop ?_ | refine Ap.bind ?_ ?_ | refine Ap.ite ?_ ?_ | apply Ap.onL | intro _ | split)
noncomputable def KC (a0 : OrganBook) : Option (Int) := Option.bind (if (Aj a0.Pipes 1 5) then if (decide (a0.Tunes.len ≤ 6)) then if (decide (a0.Forks.len ≤ 3)) then Option.bind (FD a0.Voice) fun v5 => some ((decide (v5 = 0))) else some (false) else some (false) else some (false) : Option (Bool)) fun o7 => Option.bind (Gx (Ee a0) (o7, 0)) (fun y13 => Option.bind (Gx (Dl a0) (y13, 0)) (fun y28 => if y28 then some (0) else some (80)))
theorem bH (a0 : OrganBook) : Ap (KC a0) (F3 a0) := by
 unfold KC F3
 repeat' (first | with_reducible exact Ap.refl _ | apply IP | refine Ap.loop ?_ | refine Ap.bind ?_ ?_ | refine Ap.ite ?_ ?_ | apply Ap.onL | intro _ | split)
noncomputable def Ji (a0 : (Sl Int)) (a1 : Int) : Option (Int) := Option.bind (Gx (D3 a0 a1) 0) (fun o => match o with | .inl w4 => some (w4) | .inr _ => some ((-1)))
theorem Xu (a0 : (Sl Int)) (a1 : Int) : Ap (Ji a0 a1) (GG a0 a1) := by
 unfold Ji GG
 repeat' (first | with_reducible exact Ap.refl _ | refine Ap.loop ?_ | refine Ap.bind ?_ ?_ | refine Ap.ite ?_ ?_ | apply Ap.onL | intro _ | split)
noncomputable def HD (a0 : (Sl Int)) (a1 : Int) : Option (Bool) := Option.bind (Ji a0 a1) fun v2 => some ((decide (0 ≤ v2)))
theorem Qp (a0 : (Sl Int)) (a1 : Int) : Ap (HD a0 a1) (DF a0 a1) := by
 unfold HD DF
 repeat' (first | with_reducible exact Ap.refl _ | apply Xu | refine Ap.loop ?_ | refine Ap.bind ?_ ?_ | refine Ap.ite ?_ ?_ | apply Ap.onL | intro _ | split)
noncomputable def Gs (a0 : Int) (a1 : (Sl Int)) : Option (Int) := Option.bind (Gx (Ds a1) (a0, 0)) (fun y5 => some (y5))
theorem KE (a0 : Int) (a1 : (Sl Int)) : Ap (Gs a0 a1) (EN a0 a1) := by
 unfold Gs EN
 repeat' (first | with_reducible exact Ap.refl _ | refine Ap.loop ?_ | refine Ap.bind ?_ ?_ | refine Ap.ite ?_ ?_ | apply Ap.onL | intro _ | split)
noncomputable def Gn (a0 : AA) (a1 : Int) (a2 : (Ar 5 Int)) (a3 : Int) : Option (Int) := Option.bind (a2.ix 3) fun v3 => Option.bind (Gs a3 (Sl.cold [v3] : Sl Int)) fun v5 => Option.bind (a2.ix 1) fun v10 => Option.bind (a2.ix 2) fun v12 => Option.bind (a0.VoiceBook.Boys.ix a1) fun v14 => some ((W ((W (v10 + (W (v5 * v12)))) - (W ((W (a3 - v5)) * v14.Loss)))))
theorem O2 (a0 : AA) (a1 : Int) (a2 : (Ar 5 Int)) (a3 : Int) : Ap (Gn a0 a1 a2 a3) (Ed a0 a1 a2 a3) := by
 unfold Gn Ed
 repeat' (first | with_reducible exact Ap.refl _ | apply KE | refine Ap.loop ?_ | refine Ap.bind ?_ ?_ | refine Ap.ite ?_ ?_ | apply Ap.onL | intro _ | split)
noncomputable def GT (a0 : AA) (a1 : Int) (a2 : (Ar 5 Int)) (a3 : Int) (a4 : Int) : Option (Bool) := Option.bind (if (decide (Bj.key a2 = Bj.key (⟨[(-1), (-1), (-1), (-1), (-1)], rfl⟩ : (Ar 5 Int)))) then some (false) else Option.bind (a2.ix 4) fun v4 => if (decide (a3 < v4)) then Option.bind (a2.ix 0) fun v7 => Option.bind (Gn a0 a1 a2 a3) fun v9 => some ((Ab a4 v7 v9)) else some (false) : Option (Bool)) fun o12 => some (o12)
theorem Qd (a0 : AA) (a1 : Int) (a2 : (Ar 5 Int)) (a3 : Int) (a4 : Int) : Ap (GT a0 a1 a2 a3 a4) (DU a0 a1 a2 a3 a4) := by
 unfold GT DU
 repeat' (first | with_reducible exact Ap.refl _ | apply O2 | refine Ap.loop ?_ | refine Ap.bind ?_ ?_ | refine Ap.ite ?_ ?_ | apply Ap.onL | intro _ | split)
noncomputable def EI (a0 : AA) (a1 : Int) (a2 : (Ar 5 Int)) (a3 : (Sl Int)) (x5 : Int) : Option (Int ⊕ ((Bool) ⊕ (Unit))) := if (decide (x5 < a0.VoiceBook.Trials.len)) then Option.bind (a0.VoiceBook.Trials.ix x5) fun v11 => Option.bind (if (decide (v11.Boy = a1)) then Option.bind (HD a3 x5) fun v15 => if v15 then some (false) else Option.bind (GT a0 a1 a2 v11.Week v11.Note) fun v18 => some ((v18 != (decide (v11.Sang = 1)))) else some (false) : Option (Bool)) fun o21 => if o21 then some (.inr (.inl false)) else some (.inl ((W (x5 + 1)))) else some (.inr (.inr ()))
theorem KT (a0 : AA) (a1 : Int) (a2 : (Ar 5 Int)) (a3 : (Sl Int)) (x5 : Int) : Ap (EI a0 a1 a2 a3 x5) (BC a0 a1 a2 a3 x5) := by
 unfold EI BC
 repeat' (first | with_reducible exact Ap.refl _ | apply Qp | apply Qd | refine Ap.loop ?_ | refine Ap.bind ?_ ?_ | refine Ap.ite ?_ ?_ | apply Ap.onL | intro _ | split)
noncomputable def FW (a0 : AA) (a1 : Int) (a2 : (Ar 5 Int)) (a3 : (Sl Int)) : Option (Bool) := Option.bind (Gx (EI a0 a1 a2 a3) 0) (fun o => match o with | .inl w6 => some (w6) | .inr _ => some (true))
theorem NU (a0 : AA) (a1 : Int) (a2 : (Ar 5 Int)) (a3 : (Sl Int)) : Ap (FW a0 a1 a2 a3) (BX a0 a1 a2 a3) := by
 unfold FW BX
 repeat' (first | with_reducible exact Ap.refl _ | apply KT | refine Ap.loop ?_ | refine Ap.bind ?_ ?_ | refine Ap.ite ?_ ?_ | apply Ap.onL | intro _ | split)
noncomputable def CH {σ : Type} (rec_ : (Ar 5 Int) → Int → (Ar 5 BJ) → AA → Int → (Sl Int) → σ → Option (Bool × σ)) (yf : (Ar 5 Int) → σ → Option (Bool × σ)) (a1 : Int) (a2x : (Ar 5 BJ)) (a4xf0 : AA) (a5 : Int) (a6 : (Sl Int)) (v2 : BJ) : σ × (Ar 5 Int) × Int → Option ((σ × (Ar 5 Int) × Int) ⊕ ((Bool × σ) ⊕ (σ × (Ar 5 Int))))
 | (x9, x10, x11) => if (decide (x11 < (W ((W (v2.High - v2.Low)) + 1)))) then Option.bind (x10.ix a1) fun v20 => if (decide (a1 < 4)) then Option.bind (rec_ (x10.put a1 (W (v2.Low + x11))) (W (a1 + 1)) a2x a4xf0 a5 a6 x9) fun (v27, t28) => if v27 then some (.inl (t28, (x10.put a1 (W (v2.Low + x11))), (W (x11 + 1)))) else some (.inr (.inl (false, t28))) else Option.bind (FW a4xf0 a5 (x10.put a1 (W (v2.Low + x11))) a6) fun v34 => if v34 then Option.bind (yf (x10.put a1 (W (v2.Low + x11))) x9) fun (v42, t43) => if v42 then some (.inl (t43, (x10.put a1 (W (v2.Low + x11))), (W (x11 + 1)))) else some (.inr (.inl (false, t43))) else some (.inl (x9, (x10.put a1 (W (v2.Low + x11))), (W (x11 + 1)))) else some (.inr (.inr (x9, x10)))
theorem H4 {σ : Type} {rec_q rec_ : (Ar 5 Int) → Int → (Ar 5 BJ) → AA → Int → (Sl Int) → σ → Option (Bool × σ)} (hrec_ : ∀ y0 y1 y2 y3 y4 y5 y6, Ap (rec_q y0 y1 y2 y3 y4 y5 y6) (rec_ y0 y1 y2 y3 y4 y5 y6)) {yfq yf : (Ar 5 Int) → σ → Option (Bool × σ)} (hyf : ∀ y0 y1, Ap (yfq y0 y1) (yf y0 y1)) (a1 : Int) (a2x : (Ar 5 BJ)) (a4xf0 : AA) (a5 : Int) (a6 : (Sl Int)) (v2 : BJ) : ∀ z0, Ap (CH rec_q yfq a1 a2x a4xf0 a5 a6 v2 z0) (Ao rec_ yf a1 a2x a4xf0 a5 a6 v2 z0) := by
 rintro ⟨x9, x10, x11⟩
 unfold CH Ao
 dsimp only
 repeat' (first | with_reducible exact Ap.refl _ | apply hrec_ | apply hyf | apply NU | refine Ap.loop ?_ | refine Ap.bind ?_ ?_ | refine Ap.ite ?_ ?_ | apply Ap.onL | intro _ | split)
noncomputable def Bv {σ : Type} (yf : (Ar 5 Int) → σ → Option (Bool × σ)) : Nat → (Ar 5 Int) → Int → (Ar 5 BJ) → AA → Int → (Sl Int) → σ → Option (Bool × σ)
 | 0, _, _, _, _, _, _, _ => none
 | n + 1, a0, a1, a2x, a4xf0, a5, a6, st => Option.bind (a2x.ix a1) fun v2 => Option.bind (Gx (CH (Bv yf n) yf a1 a2x a4xf0 a5 a6 v2) (st, a0, 0)) (fun o => match o with | .inl w12 => some (w12) | .inr (y13, y14) => some ((true, y13)))
theorem Is {σ : Type} {yfq yf : (Ar 5 Int) → σ → Option (Bool × σ)} (hyf : ∀ y0 y1, Ap (yfq y0 y1) (yf y0 y1)) : ∀ z0 z1 z2 z3 z4 z5 z6 z7, Ap (Bv yfq z0 z1 z2 z3 z4 z5 z6 z7) (Af yf z0 z1 z2 z3 z4 z5 z6 z7) := by
 intro z0
 induction z0 with
 | zero => intros; exact gg _
 | succ n ih =>
  intros
  unfold Bv Af
  repeat' (first | with_reducible exact Ap.refl _ | apply hyf | apply ih | apply H4 | refine Ap.loop ?_ | refine Ap.bind ?_ ?_ | refine Ap.ite ?_ ?_ | apply Ap.onL | intro _ | split)
noncomputable def D8 {σ : Type} (yf : (Ar 5 Int) → σ → Option (Bool × σ)) (a1 : AA) (a2 : Int) (a3 : (Sl Int)) (st : σ) : Option (Unit × σ) := Option.bind (a1.VoiceBook.Boys.ix a2) fun v6 => Option.bind (Bv yf 64 (⟨[(-1), (-1), (-1), (-1), (-1)], rfl⟩ : (Ar 5 Int)) 0 (⟨[v6.Low, v6.High, v6.Gain, v6.Turn, v6.Break], rfl⟩ : (Ar 5 BJ)) a1 a2 a3 st) fun (v14, t15) => some (((), t15))
theorem Jq {σ : Type} {yfq yf : (Ar 5 Int) → σ → Option (Bool × σ)} (hyf : ∀ y0 y1, Ap (yfq y0 y1) (yf y0 y1)) (a1 : AA) (a2 : Int) (a3 : (Sl Int)) (st : σ) : Ap (D8 yfq a1 a2 a3 st) (BH yf a1 a2 a3 st) := by
 unfold D8 BH
 repeat' (first | with_reducible exact Ap.refl _ | apply hyf | apply Is | refine Ap.loop ?_ | refine Ap.bind ?_ ?_ | refine Ap.ite ?_ ?_ | apply Ap.onL | intro _ | split)
noncomputable def G3 (a0 : VoiceBook) (x11 : Int) : ((Ar 5 Int)) → ((Sl (Ar 5 Int)) × (List (List Int × (Sl (Ar 5 Int))))) → Option (Bool × (((Sl (Ar 5 Int)) × (List (List Int × (Sl (Ar 5 Int))))) ⊕ (Unit)))
 | a24, (x25, x26) => Option.bind (Sl.app 40 x25 ([a24])) fun v28 => Option.bind (a24.ix 4) fun v30 => Option.bind (Gs a0.Weeks (Sl.cold [v30] : Sl Int)) fun v32 => Option.bind (Gx (CJ x11 a24 v32) (x26, 0)) (fun y45 => some (true, .inl (v28, y45)))
theorem RB (a0 : VoiceBook) (x11 : Int) : ∀ z0 z1, Ap (G3 a0 x11 z0 z1) (DI a0 x11 z0 z1) := by
 rintro a24 ⟨x25, x26⟩
 unfold G3 DI
 dsimp only
 repeat' (first | with_reducible exact Ap.refl _ | apply KE | refine Ap.loop ?_ | refine Ap.bind ?_ ?_ | refine Ap.ite ?_ ?_ | apply Ap.onL | intro _ | split)
noncomputable def HA (a0 : VoiceBook) (a1 : (Sl Int)) : AA × (List (List Int × (Sl (Ar 5 Int)))) × Int → Option ((AA × (List (List Int × (Sl (Ar 5 Int)))) × Int) ⊕ (AA × (List (List Int × (Sl (Ar 5 Int))))))
 | (x9, x10, x11) => if (decide (x11 < a0.Boys.len)) then Option.bind (D8 (onL (G3 a0 x11)) x9 x11 a1 (.inl ((Sl.nil : (Sl (Ar 5 Int))), x10))) (fun o => match o with | (_, .inl (y55, y56)) => Option.bind (Sl.app 24 x9.truths.unf ([y55])) fun v57 => some (.inl ((AA.mk x9.VoiceBook v57 x9.whole), y56, (W (x11 + 1)))) | (_, .inr _) => none) else some (.inr (x9, x10))
theorem RQ (a0 : VoiceBook) (a1 : (Sl Int)) : ∀ z0, Ap (HA a0 a1 z0) (CN a0 a1 z0) := by
 rintro ⟨x9, x10, x11⟩
 unfold HA CN
 dsimp only
 repeat' (first | with_reducible exact Ap.refl _ | apply Jq | apply RB | refine Ap.loop ?_ | refine Ap.bind ?_ ?_ | refine Ap.ite ?_ ?_ | apply Ap.onL | intro _ | split)
noncomputable def Hf (a0 : VoiceBook) (a1 : (Sl Int)) : Option (AA) := Option.bind (Gx (HA a0 a1) ((AA.mk a0 (Sl.nil : (Sl (Sl (Ar 5 Int)))) (Mp.nil : (Mp 2 (Sl (Ar 5 Int))))), ([] : List (List Int × (Sl (Ar 5 Int)))), 0)) (fun (y12, y13) => some ((AA.mk y12.VoiceBook y12.truths (Mp.mk y13))))
theorem Ns (a0 : VoiceBook) (a1 : (Sl Int)) : Ap (Hf a0 a1) (EC a0 a1) := by
 unfold Hf EC
 repeat' (first | with_reducible exact Ap.refl _ | apply RQ | refine Ap.loop ?_ | refine Ap.bind ?_ ?_ | refine Ap.ite ?_ ?_ | apply Ap.onL | intro _ | split)
noncomputable def Ep (a0 : (Sl (Sl (Ar 5 Int)))) : Option (Int) := Option.bind (Gx (BF a0) 0) (fun o => match o with | .inl w4 => some (w4) | .inr _ => some ((-1)))
theorem LW (a0 : (Sl (Sl (Ar 5 Int)))) : Ap (Ep a0) (Bz a0) := by
 unfold Ep Bz
 repeat' (first | with_reducible exact Ap.refl _ | refine Ap.loop ?_ | refine Ap.bind ?_ ?_ | refine Ap.ite ?_ ?_ | apply Ap.onL | intro _ | split)
noncomputable def Dw (a0 : (Sl (Sl (Ar 5 Int)))) : Option (Bool) := Option.bind (Ep a0) fun v2 => some ((decide (0 ≤ v2)))
theorem Jj (a0 : (Sl (Sl (Ar 5 Int)))) : Ap (Dw a0) (BQ a0) := by
 unfold Dw BQ
 repeat' (first | with_reducible exact Ap.refl _ | apply LW | refine Ap.loop ?_ | refine Ap.bind ?_ ?_ | refine Ap.ite ?_ ?_ | apply Ap.onL | intro _ | split)
noncomputable def EM (a0 : AA) : Option (Bool) := Option.bind (Dw a0.truths) fun v2 => some ((!v2))
theorem Ir (a0 : AA) : Ap (EM a0) (Bh a0) := by
 unfold EM Bh
 repeat' (first | with_reducible exact Ap.refl _ | apply Jj | refine Ap.loop ?_ | refine Ap.bind ?_ ?_ | refine Ap.ite ?_ ?_ | apply Ap.onL | intro _ | split)
noncomputable def IS (a0 : VoiceBook) : Option (Bool × Int) := Option.bind (FD a0) fun v2 => if (decide (v2 = 0)) then Option.bind (Hf a0 (Sl.nil : (Sl Int))) fun v7 => Option.bind (EM v7) fun v9 => some ((v9, 0)) else some ((false, v2))
theorem Pv (a0 : VoiceBook) : Ap (IS a0) (Bt a0) := by
 unfold IS Bt
 repeat' (first | with_reducible exact Ap.refl _ | apply IP | apply Ns | apply Ir | refine Ap.loop ?_ | refine Ap.bind ?_ ?_ | refine Ap.ite ?_ ?_ | apply Ap.onL | intro _ | split)
noncomputable def JV (a0 : OrganBook) : Option (Bool) := Option.bind (IS a0.Voice) fun v2 => Option.bind (if v2.1 then Option.bind (Bg a0 (Sl.nil : (Sl Int))) fun v6 => some (v6.is_) else some (false) : Option (Bool)) fun o8 => some (o8)
theorem XR (a0 : OrganBook) : Ap (JV a0) (DZ a0) := by
 unfold JV DZ
 repeat' (first | with_reducible exact Ap.refl _ | apply Pv | refine Ap.loop ?_ | refine Ap.bind ?_ ?_ | refine Ap.ite ?_ ?_ | apply Ap.onL | intro _ | split)
noncomputable def IY (a0 : OrganBook) (a1 : Bool) : Option (AH × Int) := Option.bind (KC a0) fun v3 => if (decide (v3 = 0)) then if a1 then Option.bind (JV a0) fun v10 => if v10 then Option.bind (Bg a0 (Sl.nil : (Sl Int))) fun v14 => some ((v14, 0)) else some (((AH.mk (OrganBook.mk 0 (Sl.nil : (Sl BO)) (Sl.nil : (Sl BB)) (VoiceBook.mk (Sl.nil : (Sl AK)) 0 (Sl.nil : (Sl AI)))) (Mp.nil : (Mp 2 Int)) (⟨List.replicate 6 (⟨List.replicate 6 0, rfl⟩ : (Ar 6 Int)), rfl⟩ : (Ar 6 (Ar 6 Int))) false), 82)) else some (((AH.mk (OrganBook.mk 0 (Sl.nil : (Sl BO)) (Sl.nil : (Sl BB)) (VoiceBook.mk (Sl.nil : (Sl AK)) 0 (Sl.nil : (Sl AI)))) (Mp.nil : (Mp 2 Int)) (⟨List.replicate 6 (⟨List.replicate 6 0, rfl⟩ : (Ar 6 Int)), rfl⟩ : (Ar 6 (Ar 6 Int))) false), 81)) else some (((AH.mk (OrganBook.mk 0 (Sl.nil : (Sl BO)) (Sl.nil : (Sl BB)) (VoiceBook.mk (Sl.nil : (Sl AK)) 0 (Sl.nil : (Sl AI)))) (Mp.nil : (Mp 2 Int)) (⟨List.replicate 6 (⟨List.replicate 6 0, rfl⟩ : (Ar 6 Int)), rfl⟩ : (Ar 6 (Ar 6 Int))) false), v3))
theorem aN (a0 : OrganBook) (a1 : Bool) : Ap (IY a0 a1) (DG a0 a1) := by
 unfold IY DG
 repeat' (first | with_reducible exact Ap.refl _ | apply bH | apply XR | refine Ap.loop ?_ | refine Ap.bind ?_ ?_ | refine Ap.ite ?_ ?_ | apply Ap.onL | intro _ | split)
noncomputable def LG (a0 : Int) (a1 : (Sl Int)) : Option (Int) := Option.bind (Gx (Hl a1) (a0, 0)) (fun y5 => some (y5))
theorem cU (a0 : Int) (a1 : (Sl Int)) : Ap (LG a0 a1) (Iy a0 a1) := by
 unfold LG Iy
 repeat' (first | with_reducible exact Ap.refl _ | refine Ap.loop ?_ | refine Ap.bind ?_ ?_ | refine Ap.ite ?_ ?_ | apply Ap.onL | intro _ | split)
noncomputable def FA (a0 : AH) : BJ × Int → Option ((BJ × Int) ⊕ (BJ))
 | (x10, x11) => if (decide (x11 < a0.OrganBook.Pipes)) then Option.bind (DW a0 (BR.mk 5 x11)) fun v19 => Option.bind (LG x10.Low (Sl.cold [v19.Low] : Sl Int)) fun v24 => some (.inl ((BJ.mk v24 (max x10.High v19.High)), (W (x11 + 1)))) else some (.inr x10)
theorem L9 (a0 : AH) : ∀ z0, Ap (FA a0 z0) (C9 a0 z0) := by
 rintro ⟨x10, x11⟩
 unfold FA C9
 dsimp only
 repeat' (first | with_reducible exact Ap.refl _ | apply cU | refine Ap.loop ?_ | refine Ap.bind ?_ ?_ | refine Ap.ite ?_ ?_ | apply Ap.onL | intro _ | split)
noncomputable def Gf (a0 : AH) : Option (BJ) := Option.bind (DW a0 (BR.mk 5 0)) fun v4 => Option.bind (Gx (FA a0) (v4, 0)) (fun y12 => Option.bind (zt .quo (W (y12.Low + 60)) 10) fun v30 => Option.bind (zt .quo (W ((W (y12.High + 60)) + 9)) 10) fun v32 => some ((BJ.mk (W (v30 - 6)) (W (v32 - 6)))))
theorem CP (a0 : AH) : Ap (Gf a0) (A3 a0) := by
 unfold Gf A3
 repeat' (first | with_reducible exact Ap.refl _ | apply L9 | refine Ap.loop ?_ | refine Ap.bind ?_ ?_ | refine Ap.ite ?_ ?_ | apply Ap.onL | intro _ | split)
noncomputable def GQ (a0 : VoiceBook) (a1 : Bool) : Option (AA × Int) := Option.bind (FD a0) fun v3 => if (decide (v3 = 0)) then if a1 then Option.bind (Hf a0 (Sl.nil : (Sl Int))) fun v10 => Option.bind (EM v10) fun v14 => if v14 then some ((v10, 0)) else some ((v10, 22)) else some (((AA.mk (VoiceBook.mk (Sl.nil : (Sl AK)) 0 (Sl.nil : (Sl AI))) (Sl.nil : (Sl (Sl (Ar 5 Int)))) (Mp.nil : (Mp 2 (Sl (Ar 5 Int))))), 21)) else some (((AA.mk (VoiceBook.mk (Sl.nil : (Sl AK)) 0 (Sl.nil : (Sl AI))) (Sl.nil : (Sl (Sl (Ar 5 Int)))) (Mp.nil : (Mp 2 (Sl (Ar 5 Int))))), v3))
theorem Zs (a0 : VoiceBook) (a1 : Bool) : Ap (GQ a0 a1) (B9 a0 a1) := by
 unfold GQ B9
 repeat' (first | with_reducible exact Ap.refl _ | apply IP | apply Ns | apply Ir | refine Ap.loop ?_ | refine Ap.bind ?_ ?_ | refine Ap.ite ?_ ?_ | apply Ap.onL | intro _ | split)
noncomputable def IB (a0 : AA) (a1 : Int) (a2 : (Ar 5 Int)) (a3 : Int) : Option (Int) := Option.bind (a2.ix 3) fun v2 => Option.bind (Gs a3 (Sl.cold [v2] : Sl Int)) fun v4 => Option.bind (a2.ix 1) fun v9 => Option.bind (a2.ix 2) fun v11 => Option.bind (a0.VoiceBook.Boys.ix a1) fun v13 => some ((W ((W (v9 + (W (v4 * v11)))) - (W ((W (a3 - v4)) * v13.Loss)))))
theorem Ss (a0 : AA) (a1 : Int) (a2 : (Ar 5 Int)) (a3 : Int) : Ap (IB a0 a1 a2 a3) (Di a0 a1 a2 a3) := by
 unfold IB Di
 repeat' (first | with_reducible exact Ap.refl _ | apply KE | refine Ap.loop ?_ | refine Ap.bind ?_ ?_ | refine Ap.ite ?_ ?_ | apply Ap.onL | intro _ | split)
noncomputable def H9 (a0 : AA) (a1 : Int) (a2 : (Ar 5 Int)) (a3 : Int) (a4 : Int) : Option (Bool) := Option.bind (if (decide (Bj.key a2 = Bj.key (⟨[(-1), (-1), (-1), (-1), (-1)], rfl⟩ : (Ar 5 Int)))) then some (false) else Option.bind (a2.ix 4) fun v3 => if (decide (a3 < v3)) then Option.bind (a2.ix 0) fun v6 => Option.bind (IB a0 a1 a2 a3) fun v9 => some ((Ab a4 v6 v9)) else some (false) : Option (Bool)) fun o11 => some (o11)
theorem TF (a0 : AA) (a1 : Int) (a2 : (Ar 5 Int)) (a3 : Int) (a4 : Int) : Ap (H9 a0 a1 a2 a3 a4) (C0 a0 a1 a2 a3 a4) := by
 unfold H9 C0
 repeat' (first | with_reducible exact Ap.refl _ | apply Ss | refine Ap.loop ?_ | refine Ap.bind ?_ ?_ | refine Ap.ite ?_ ?_ | apply Ap.onL | intro _ | split)
noncomputable def E5 (a0 : AA) (a1 : Int) (a2 : Int) (a3 : Int) : Aa × Int → Option ((Aa × Int) ⊕ (Aa))
 | (x10, x11) => if (decide (x11 < (((Mp.get a0.whole (Bj.key (Ad.mk a1 a2))).getD (Sl.nil : (Sl (Ar 5 Int)))).len))) then Option.bind (((Mp.get a0.whole (Bj.key (Ad.mk a1 a2))).getD (Sl.nil : (Sl (Ar 5 Int)))).ix x11) fun v17 => Option.bind (H9 a0 a1 v17 a2 a3) fun v21 => if v21 then some (.inl ((Aa.mk (W (x10.so + 1)) x10.of_), (W (x11 + 1)))) else some (.inl (x10, (W (x11 + 1)))) else some (.inr x10)
theorem MQ (a0 : AA) (a1 : Int) (a2 : Int) (a3 : Int) : ∀ z0, Ap (E5 a0 a1 a2 a3 z0) (BL a0 a1 a2 a3 z0) := by
 rintro ⟨x10, x11⟩
 unfold E5 BL
 dsimp only
 repeat' (first | with_reducible exact Ap.refl _ | apply TF | refine Ap.loop ?_ | refine Ap.bind ?_ ?_ | refine Ap.ite ?_ ?_ | apply Ap.onL | intro _ | split)
noncomputable def GY (a0 : AA) (a1 : Int) (a2 : Int) (a3 : Int) : Option (Aa) := Option.bind (a0.truths.ix a1) fun v3 => Option.bind (Gx (E5 a0 a1 a2 a3) ((Aa.mk 0 v3.len), 0)) (fun y12 => some (y12))
theorem QX (a0 : AA) (a1 : Int) (a2 : Int) (a3 : Int) : Ap (GY a0 a1 a2 a3) (CW a0 a1 a2 a3) := by
 unfold GY CW
 repeat' (first | with_reducible exact Ap.refl _ | apply MQ | refine Ap.loop ?_ | refine Ap.bind ?_ ?_ | refine Ap.ite ?_ ?_ | apply Ap.onL | intro _ | split)
noncomputable def F4 (a0 : Aa) : Option (Int) := Option.bind (Gx (Av a0) (0, 0)) (fun y7 => some (y7))
theorem Oj (a0 : Aa) : Ap (F4 a0) (B8 a0) := by
 unfold F4 B8
 repeat' (first | with_reducible exact Ap.refl _ | refine Ap.loop ?_ | refine Ap.bind ?_ ?_ | refine Ap.ite ?_ ?_ | apply Ap.onL | intro _ | split)
noncomputable def IT (a0 : VoiceBook) (a1 : Int) (a2 : Int) (a3 : Int) : Option (Int × Int) := Option.bind (if (CZ a0 a1) then if (B0 a0 a2) then Option.bind (GQ a0 (BP a3)) fun v4 => some (v4.1, v4.2) else Option.bind (GQ a0 false) fun v6 => some (v6.1, v6.2) else Option.bind (GQ a0 false) fun v8 => some (v8.1, v8.2) : Option (AA × Int)) fun (o10, o11) => if (decide (o11 = 0)) then Option.bind (GY o10 a1 a2 a3) fun v16 => Option.bind (F4 v16) fun v18 => some ((v18, 0)) else some ((0, o11))
theorem QF (a0 : VoiceBook) (a1 : Int) (a2 : Int) (a3 : Int) : Ap (IT a0 a1 a2 a3) (EK a0 a1 a2 a3) := by
 unfold IT EK
 repeat' (first | with_reducible exact Ap.refl _ | apply Zs | apply QX | apply Oj | refine Ap.loop ?_ | refine Ap.bind ?_ ?_ | refine Ap.ite ?_ ?_ | apply Ap.onL | intro _ | split)
noncomputable def FV (a0 : AH) (a1 : AC) (a2 : Int) (a3 : Int) (a4 : BJ) (x3 : Int) : Option (Int ⊕ ((Bool) ⊕ (Unit))) := if (decide (x3 ≤ (W ((W (a1.Notes.High + a3)) + a4.High)))) then Option.bind (IT a0.OrganBook.Voice a1.Boy a2 x3) fun v9 => if (if (decide (v9.2 = 0)) then (!(decide (v9.1 = 2))) else true) then some (.inr (.inl false)) else some (.inl ((W (x3 + 1)))) else some (.inr (.inr ()))
theorem Na (a0 : AH) (a1 : AC) (a2 : Int) (a3 : Int) (a4 : BJ) (x3 : Int) : Ap (FV a0 a1 a2 a3 a4 x3) (BW a0 a1 a2 a3 a4 x3) := by
 unfold FV BW
 repeat' (first | with_reducible exact Ap.refl _ | apply QF | refine Ap.loop ?_ | refine Ap.bind ?_ ?_ | refine Ap.ite ?_ ?_ | apply Ap.onL | intro _ | split)
noncomputable def G2 (a0 : AH) (a1 : AC) (a2 : Int) (a3 : Int) (a4 : BJ) : Option (Bool) := Option.bind (Gx (FV a0 a1 a2 a3 a4) (W ((W (a1.Notes.Low + a3)) + a4.Low))) (fun o => match o with | .inl w4 => some (w4) | .inr _ => some (true))
theorem Qi (a0 : AH) (a1 : AC) (a2 : Int) (a3 : Int) (a4 : BJ) : Ap (G2 a0 a1 a2 a3 a4) (DK a0 a1 a2 a3 a4) := by
 unfold G2 DK
 repeat' (first | with_reducible exact Ap.refl _ | apply Na | refine Ap.loop ?_ | refine Ap.bind ?_ ?_ | refine Ap.ite ?_ ?_ | apply Ap.onL | intro _ | split)
noncomputable def Ih (a1 : Int) (a2 : (Sl AC)) (o14 : AH) (v21 : BJ) (x26 : Int) (x33 : Int) : Option (Int ⊕ ((Unit) ⊕ (Unit))) := if (decide (x33 < a2.len)) then Option.bind (a2.ix x33) fun v38 => Option.bind (G2 o14 v38 a1 x26 v21) fun v41 => if v41 then some (.inl ((W (x33 + 1)))) else some (.inr (.inl ())) else some (.inr (.inr ()))
theorem VW (a1 : Int) (a2 : (Sl AC)) (o14 : AH) (v21 : BJ) (x26 : Int) (x33 : Int) : Ap (Ih a1 a2 o14 v21 x26 x33) (Ci a1 a2 o14 v21 x26 x33) := by
 unfold Ih Ci
 repeat' (first | with_reducible exact Ap.refl _ | apply Qi | refine Ap.loop ?_ | refine Ap.bind ?_ ?_ | refine Ap.ite ?_ ?_ | apply Ap.onL | intro _ | split)
noncomputable def Ii (a1 : Int) (a2 : (Sl AC)) (o14 : AH) (v21 : BJ) : (Sl Int) × Int → Option (((Sl Int) × Int) ⊕ (Sl Int))
 | (x25, x26) => if (decide (x26 ≤ 6)) then Option.bind (Gx (Ih a1 a2 o14 v21 x26) 0) (fun o => match o with | .inl _ => some (.inl (x25, (W (x26 + 1)))) | .inr _ => Option.bind (Sl.app 8 x25 ([x26])) fun v47 => some (.inl (v47, (W (x26 + 1))))) else some (.inr x25)
theorem V7 (a1 : Int) (a2 : (Sl AC)) (o14 : AH) (v21 : BJ) : ∀ z0, Ap (Ii a1 a2 o14 v21 z0) (Db a1 a2 o14 v21 z0) := by
 rintro ⟨x25, x26⟩
 unfold Ii Db
 dsimp only
 repeat' (first | with_reducible exact Ap.refl _ | apply VW | refine Ap.loop ?_ | refine Ap.bind ?_ ?_ | refine Ap.ite ?_ ?_ | apply Ap.onL | intro _ | split)
noncomputable def MZ (a0 : OrganBook) (a1 : Int) (a2 : (Sl AC)) : Option ((Sl Int) × Int) := Option.bind (if (Aj a2.len 1 4) then Option.bind (BA a2 a0) fun v3 => some ((!v3)) else some (false) : Option (Bool)) fun o6 => Option.bind (if (Aj a1 0 (W (a0.Voice.Weeks - 1))) then Option.bind (IY a0 o6) fun v10 => some (v10.1, v10.2) else Option.bind (IY a0 false) fun v12 => some (v12.1, v12.2) : Option (AH × Int)) fun (o14, o15) => if (decide (o15 = 0)) then Option.bind (Gf o14) fun v21 => Option.bind (Gx (Ii a1 a2 o14 v21) ((Sl.nil : (Sl Int)), (-6))) (fun y27 => Option.bind (y27.sub3 none y27.len) fun v52 => some ((v52, 0))) else some (((Sl.nil : (Sl Int)), o15))
theorem fN (a0 : OrganBook) (a1 : Int) (a2 : (Sl AC)) : Ap (MZ a0 a1 a2) (Bw a0 a1 a2) := by
 unfold MZ Bw
 repeat' (first | with_reducible exact Ap.refl _ | apply EB | apply aN | apply CP | apply V7 | refine Ap.loop ?_ | refine Ap.bind ?_ ?_ | refine Ap.ite ?_ ?_ | apply Ap.onL | intro _ | split)
noncomputable def LA (a0 : VoiceBook) (a1 : Int) (a2 : (Sl AC)) (a3 : Int) : Option (BenchBook) := Option.bind (Gx (Ei a1 a2 a3) ((BenchBook.mk a0 (Sl.nil : (Sl AL)) 1), 0)) (fun y7 => some (y7))
theorem QD (a0 : VoiceBook) (a1 : Int) (a2 : (Sl AC)) (a3 : Int) : Ap (LA a0 a1 a2 a3) (Df a0 a1 a2 a3) := by
 unfold LA Df
 repeat' (first | with_reducible exact Ap.refl _ | refine Ap.loop ?_ | refine Ap.bind ?_ ?_ | refine Ap.ite ?_ ?_ | apply Ap.onL | intro _ | split)
noncomputable def IA (a0 : BenchBook) : Bool × Int → Option ((Bool × Int) ⊕ (Bool))
 | (x10, x11) => if (decide (x11 < a0.Pieces.len)) then Option.bind (a0.Pieces.ix x11) fun v17 => Option.bind (Gx (Dn v17) ((x10 && ((AO v17.Week 0 (W (a0.Voice.Weeks - 1))) && (AO v17.Parts.len 1 3))), 0)) (fun y27 => some (.inl (y27, (W (x11 + 1))))) else some (.inr x10)
theorem TL (a0 : BenchBook) : ∀ z0, Ap (IA a0 z0) (C2 a0 z0) := by
 rintro ⟨x10, x11⟩
 unfold IA C2
 dsimp only
 repeat' (first | with_reducible exact Ap.refl _ | refine Ap.loop ?_ | refine Ap.bind ?_ ?_ | refine Ap.ite ?_ ?_ | apply Ap.onL | intro _ | split)
noncomputable def KW (a0 : BenchBook) : Option (Int) := Option.bind (Option.bind (FD a0.Voice) fun v2 => if (decide (v2 = 0)) then if (AO a0.Pieces.len 1 3) then some ((AO a0.Most 1 3)) else some (false) else some (false) : Option (Bool)) fun o6 => Option.bind (Gx (IA a0) (o6, 0)) (fun y12 => if y12 then some (0) else some (70))
theorem au (a0 : BenchBook) : Ap (KW a0) (EO a0) := by
 unfold KW EO
 repeat' (first | with_reducible exact Ap.refl _ | apply IP | apply TL | refine Ap.loop ?_ | refine Ap.bind ?_ ?_ | refine Ap.ite ?_ ?_ | apply Ap.onL | intro _ | split)
noncomputable def E7 (a0 : AB) (a2 : Int) (v3 : AL) (v7 : A4) (x11 : Int) : Option (Int ⊕ ((Bool) ⊕ (Unit))) := if (decide (x11 < (W ((W (v7.Notes.High - v7.Notes.Low)) + 1)))) then Option.bind (IT a0.BenchBook.Voice a2 v3.Week (W (v7.Notes.Low + x11))) fun v18 => if (if (decide (v18.2 = 0)) then (decide (v18.1 < 2)) else true) then some (.inr (.inl false)) else some (.inl ((W (x11 + 1)))) else some (.inr (.inr ()))
theorem MM (a0 : AB) (a2 : Int) (v3 : AL) (v7 : A4) (x11 : Int) : Ap (E7 a0 a2 v3 v7 x11) (BM a0 a2 v3 v7 x11) := by
 unfold E7 BM
 repeat' (first | with_reducible exact Ap.refl _ | apply QF | refine Ap.loop ?_ | refine Ap.bind ?_ ?_ | refine Ap.ite ?_ ?_ | apply Ap.onL | intro _ | split)
noncomputable def GR (a0 : AB) (a1 : AQ) (a2 : Int) : Option (Bool) := Option.bind (a0.BenchBook.Pieces.ix a1.piece) fun v3 => Option.bind (v3.Parts.ix a1.part) fun v7 => Option.bind (Gx (E7 a0 a2 v3 v7) 0) (fun o => match o with | .inl w12 => some (w12) | .inr _ => some (true))
theorem Qa (a0 : AB) (a1 : AQ) (a2 : Int) : Ap (GR a0 a1 a2) (B2 a0 a1 a2) := by
 unfold GR B2
 repeat' (first | with_reducible exact Ap.refl _ | apply MM | refine Ap.loop ?_ | refine Ap.bind ?_ ?_ | refine Ap.ite ?_ ?_ | apply Ap.onL | intro _ | split)
noncomputable def Ft (a0 : BenchBook) (x19 : Int) (x30 : Int) : (List (List Int × (Sl Int))) × Int → Option (((List (List Int × (Sl Int))) × Int) ⊕ (List (List Int × (Sl Int))))
 | (x40, x41) => if (decide (x41 < a0.Voice.Boys.len)) then Option.bind (if (Ge x41) then some (true) else Option.bind (GR (AB.mk a0 (Mp.nil : (Mp 2 (Sl Int)))) (AQ.mk x19 x30) x41) fun v50 => some ((!v50)) : Option (Bool)) fun o53 => if o53 then some (.inl (x40, (W (x41 + 1)))) else Option.bind (Sl.app 8 (NW (Sl.nil : (Sl Int)) x40 (Bj.key (AQ.mk x19 x30))) ([x41])) fun v59 => some (.inl ((EX x40 (Bj.key (AQ.mk x19 x30)) v59), (W (x41 + 1)))) else some (.inr x40)
theorem Oh (a0 : BenchBook) (x19 : Int) (x30 : Int) : ∀ z0, Ap (Ft a0 x19 x30 z0) (D9 a0 x19 x30 z0) := by
 rintro ⟨x40, x41⟩
 unfold Ft D9
 dsimp only
 repeat' (first | with_reducible exact Ap.refl _ | apply Qa | refine Ap.loop ?_ | refine Ap.bind ?_ ?_ | refine Ap.ite ?_ ?_ | apply Ap.onL | intro _ | split)
noncomputable def F6 (a0 : BenchBook) (x19 : Int) (v25 : AL) : (List (List Int × (Sl Int))) × Int → Option (((List (List Int × (Sl Int))) × Int) ⊕ (List (List Int × (Sl Int))))
 | (x29, x30) => if (decide (x30 < v25.Parts.len)) then Option.bind (Gx (Ft a0 x19 x30) (x29, 0)) (fun y42 => some (.inl (y42, (W (x30 + 1))))) else some (.inr x29)
theorem OA (a0 : BenchBook) (x19 : Int) (v25 : AL) : ∀ z0, Ap (F6 a0 x19 v25 z0) (D4 a0 x19 v25 z0) := by
 rintro ⟨x29, x30⟩
 unfold F6 D4
 dsimp only
 repeat' (first | with_reducible exact Ap.refl _ | apply Oh | refine Ap.loop ?_ | refine Ap.bind ?_ ?_ | refine Ap.ite ?_ ?_ | apply Ap.onL | intro _ | split)
noncomputable def F7 (a0 : BenchBook) : (List (List Int × (Sl Int))) × Int → Option (((List (List Int × (Sl Int))) × Int) ⊕ (List (List Int × (Sl Int))))
 | (x18, x19) => if (decide (x19 < a0.Pieces.len)) then Option.bind (a0.Pieces.ix x19) fun v25 => Option.bind (Gx (F6 a0 x19 v25) (x18, 0)) (fun y31 => some (.inl (y31, (W (x19 + 1))))) else some (.inr x18)
theorem OD (a0 : BenchBook) : ∀ z0, Ap (F7 a0 z0) (D2 a0 z0) := by
 rintro ⟨x18, x19⟩
 unfold F7 D2
 dsimp only
 repeat' (first | with_reducible exact Ap.refl _ | apply OA | refine Ap.loop ?_ | refine Ap.bind ?_ ?_ | refine Ap.ite ?_ ?_ | apply Ap.onL | intro _ | split)
noncomputable def H8 (a0 : BenchBook) : Option (AB) := Option.bind (Gx (F7 a0) ((EX ([] : List (List Int × (Sl Int))) (Bj.key (AQ.mk (-1) (-1))) (Sl.nil : (Sl Int))), 0)) (fun y20 => some ((AB.mk a0 (Mp.mk y20))))
theorem TI (a0 : BenchBook) : Ap (H8 a0) (Eg a0) := by
 unfold H8 Eg
 repeat' (first | with_reducible exact Ap.refl _ | apply OD | refine Ap.loop ?_ | refine Ap.bind ?_ ?_ | refine Ap.ite ?_ ?_ | apply Ap.onL | intro _ | split)
noncomputable def IZ (a0 : BenchBook) (a1 : Bool) : Option (AB × Int) := Option.bind (KW a0) fun v3 => if (decide (v3 = 0)) then if a1 then Option.bind (IS a0.Voice) fun v10 => if v10.1 then Option.bind (H8 a0) fun v15 => some ((v15, 0)) else some (((AB.mk (BenchBook.mk (VoiceBook.mk (Sl.nil : (Sl AK)) 0 (Sl.nil : (Sl AI))) (Sl.nil : (Sl AL)) 0) (Mp.nil : (Mp 2 (Sl Int)))), 72)) else some (((AB.mk (BenchBook.mk (VoiceBook.mk (Sl.nil : (Sl AK)) 0 (Sl.nil : (Sl AI))) (Sl.nil : (Sl AL)) 0) (Mp.nil : (Mp 2 (Sl Int)))), 71)) else some (((AB.mk (BenchBook.mk (VoiceBook.mk (Sl.nil : (Sl AK)) 0 (Sl.nil : (Sl AI))) (Sl.nil : (Sl AL)) 0) (Mp.nil : (Mp 2 (Sl Int)))), v3))
theorem ae (a0 : BenchBook) (a1 : Bool) : Ap (IZ a0 a1) (DD a0 a1) := by
 unfold IZ DD
 repeat' (first | with_reducible exact Ap.refl _ | apply au | apply Pv | apply TI | refine Ap.loop ?_ | refine Ap.bind ?_ ?_ | refine Ap.ite ?_ ?_ | apply Ap.onL | intro _ | split)
noncomputable def OT (a0 : BenchBook) (a1 : Int) (a2 : Int) : Option ((Sl Int) × Int) := Option.bind (if (Dc a0 a1) then Option.bind (a0.Pieces.ix a1) fun v3 => Option.bind (IZ a0 (AO a2 0 (W (v3.Parts.len - 1)))) fun v5 => some (v5.1, v5.2) else Option.bind (IZ a0 false) fun v7 => some (v7.1, v7.2) : Option (AB × Int)) fun (o9, o10) => if (decide (o10 = 0)) then Option.bind (((Mp.get o9.able (Bj.key (AQ.mk a1 a2))).getD (Sl.nil : (Sl Int))).sub3 none (((Mp.get o9.able (Bj.key (AQ.mk a1 a2))).getD (Sl.nil : (Sl Int))).len)) fun v18 => some ((v18, 0)) else some (((Sl.nil : (Sl Int)), o10))
theorem VZ (a0 : BenchBook) (a1 : Int) (a2 : Int) : Ap (OT a0 a1 a2) (FY a0 a1 a2) := by
 unfold OT FY
 repeat' (first | with_reducible exact Ap.refl _ | apply ae | refine Ap.loop ?_ | refine Ap.bind ?_ ?_ | refine Ap.ite ?_ ?_ | apply Ap.onL | intro _ | split)
noncomputable def IQ (a0 : (Sl Int)) (a1 : (Sl Int)) : Option (Bool) := Option.bind (Gx (HW a0 a1) ((decide (a0.len = a1.len)), 0)) (fun y6 => some (y6))
theorem Gi (a0 : (Sl Int)) (a1 : (Sl Int)) : Ap (IQ a0 a1) (E8 a0 a1) := by
 unfold IQ E8
 repeat' (first | with_reducible exact Ap.refl _ | refine Ap.loop ?_ | refine Ap.bind ?_ ?_ | refine Ap.ite ?_ ?_ | apply Ap.onL | intro _ | split)
noncomputable def QI : Option (Bool) := Option.bind (MZ (AG Bq 1) 1 (Sl.cold [(AC.mk 0 (Ac 8 12)), (AC.mk 1 (Ac 9 16))] : Sl AC)) fun v3 => Option.bind (LA Bq 1 (Sl.cold [(AC.mk 0 (Ac 8 12)), (AC.mk 1 (Ac 9 16))] : Sl AC) 1) fun v6 => Option.bind (OT v6 1 0) fun v8 => Option.bind (MG 20 (Sl.cold [2, 3] : Sl Int) (Sl.cold [(B7.mk 1 0 16 1)] : Sl B7)) fun v11 => Option.bind (HM v11 0 0) fun v15 => Option.bind (E4 v11) fun v18 => Option.bind (G5 v18 1) fun v20 => Option.bind (G1 v11 1) fun v23 => Option.bind (E4 v11) fun v26 => Option.bind (G7 v26 1 2) fun v28 => Option.bind (if (decide (v3.2 = 0)) then if (decide (v8.2 = 0)) then if (decide (v15.2 = 0)) then if (decide (v20.2 = 0)) then if (decide (v23.2 = 0)) then if (decide (v28.2 = 0)) then Option.bind (IQ v3.1 (Sl.cold [(-1), 0, 1, 2] : Sl Int)) fun v37 => if v37 then Option.bind (IQ v8.1 (Sl.cold [1] : Sl Int)) fun v40 => if v40 then if (decide (Bj.key v15.1 = Bj.key (Ac 18 20))) then if (decide (Bj.key v20.1 = Bj.key v15.1)) then if (decide (Bj.key v23.1 = Bj.key (Ac 3 5))) then some ((decide (Bj.key v28.1 = Bj.key (Ac (-5) (-3))))) else some (false) else some (false) else some (false) else some (false) else some (false) else some (false) else some (false) else some (false) else some (false) else some (false) else some (false) : Option (Bool)) fun o46 => some (o46)
theorem rl : Ap (QI ) (CX ) := by
 unfold QI CX
 repeat' (first | with_reducible exact Ap.refl _ | apply fN | apply QD | apply VZ | apply Gi | refine Ap.loop ?_ | refine Ap.bind ?_ ?_ | refine Ap.ite ?_ ?_ | apply Ap.onL | intro _ | split)
end Go.Lf
