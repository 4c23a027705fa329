/- A part of the proof. -/
import Derived.Test.YtohgomfnigdaoaaDoory20
import Derived.Test.YtohgomfnigdaoaaDoory22
import Derived.Test.YtohgomfnigdaoaaDoory49
set_option linter.all false
set_option maxHeartbeats 9999999
namespace Go.Lf
open Go
theorem LY {low : List Fr} (a0 : AB) (a1 : (Sl AD)) : LW zL 30 [.d (Enc.enc a0), .d (Enc.enc a1)] low (.d (.fn 53 [] [.fptr (Enc.cells a0) 0, .fptr [Enc.enc a1] 0])) := by
 refine ir VI Vb ?_
 rintro s r hl hf
 refine Ra hl hf ?_
 rintro g1 s r hl hf
 refine Ra hl hf ?_
 rintro g2 s r hl hf
 exact ⟨Or.inr rfl, hl, oS (by simp only [iL, r, G7, Jw, QK, hl]; simp only [wU, xW, tz, tq, aP, ey, kM, lF, fh, aK, bT, SN, S4, TD, Vx, lm, O6, Z8, Sm, Option.map_some, Option.map_none, AA.lc, AB.lc, dz (show Env.get 2 s.env = _ from r.1), dz (show Env.get 3 s.env = _ from r.2.1)])⟩
theorem JH : Fin zL 57 [] (Enc.enc (Bw)) := by
 refine fnN fA fL ?_
 rintro low s - hl hf
 have q2 := @Xv
 refine Ra hl hf ?_
 rintro g1 s r hl hf
 have q4 := @Xv
 refine Ra hl hf ?_
 rintro g3 s r hl hf
 refine Ra hl hf ?_
 rintro g5 s r hl hf
 exact ⟨Or.inr rfl, hl, AU (EG r.1 rfl)⟩
def dy := JH.call
theorem JM {low : List Fr} (a0 : AC) (a1x : AD) (a2x : Int) {pja1 : Nat} {pta1 : Nat} {pga1 : Nat} {pja2 : Nat} {pta2 : Nat} {pga2 : Nat} (ba1 : Im low pja1 pta1 = some (.box pga1 ((Enc.cells a1x).map LV.d))) (ba2 : Im low pja2 pta2 = some (.box pga2 [.d (.int a2x)])) : LW zL 56 [.d (Enc.enc a0), .ptr pja1 pta1 pga1 0, .ptr pja2 pta2 pga2 0] low (.d (.bool (Cm a0 a1x a2x))) := by
 refine ir Ko K0 ?_
 rintro s r hl hf
 refine Ra hl hf ?_
 rintro g1 s r hl hf
 have q5 := Eu ba1
 have q6 := Eu ba2
 refine Rx (fun g4 => [B_ 4 ((decide (a0.Piece = a1x.at_.piece)) && (decide (a0.Boy = a2x)))]) hl hf ?_
 rintro g4 s r hl hf
 exact ⟨Or.inr rfl, hl, AU (AO r.1)⟩
theorem Ol {low : List Fr} {a0 : (Sl AC)} {a1c0x : AD} {a1c1x : Int} {pja1c0 : Nat} {pta1c0 : Nat} {pga1c0 : Nat} {pja1c1 : Nat} {pta1c1 : Nat} {pga1c1 : Nat} (ba1c0 : Im low pja1c0 pta1c0 = some (.box pga1c0 ((Enc.cells a1c0x).map LV.d))) (ba1c1 : Im low pja1c1 pta1c1 = some (.box pga1c1 [.d (.int a1c1x)])) {r : Int} (k0 : DF a0 a1c0x a1c1x = some r) : LW zL 72 [.d (Enc.enc a0), .fn 56 [] [.ptr pja1c0 pta1c0 pga1c0 0, .ptr pja1c1 pta1c1 pga1c1 0]] low (.d (.int r)) := by
 unfold DF at k0; replace k0 := kq k0
 refine ir Hk KV ?_
 rintro s r hl hf
 refine Ra hl hf ?_
 rintro g1 s r hl hf
 refine Ra hl hf ?_
 rintro g2 s r hl hf
 refine blk ?_
 obtain ⟨o5, l6, k1⟩ := bnk k0
 refine BG (f := A8 a0 a1c0x a1c1x) (E := fun (x : Int) s => Dn [E_ 0 a0, (1, .v (.fn 56 [] [.ptr pja1c0 pta1c0 pga1c0 0, .ptr pja1c1 pta1c1 pga1c1 0])), I_ 7 a0.len, I_ 8 x] s ∧ s.low = low ∧ NoB Hk s) (Q := fun (o : ((Int) ⊕ (Unit))) j s => match o with | .inl w4 => j = .ret ∧ FnJ KV.1 low (.d (.int w4)) .ret s | .inr _ => j = .exit 0 ∧ Dn [] s ∧ s.low = low ∧ NoB Hk s) l6 ?_ ⟨r, hl, hf⟩ ?_
 ·rintro x3 s out ⟨r, hl, hf⟩ k2
  unfold A8 at k2
  refine Ra hl hf ?_
  rintro g7 s r hl hf
  refine Fg r.2.2.2.2.1 k2 (fun c8 k2 => ?_) fun c8 k2 => ?_
  ·refine blk <| Ra hl hf ?_
   rintro g9 s r hl hf
   obtain ⟨v10, h11, k3⟩ := bnk k2
   have f12 : ∀ (e : Env) (c : Nat), (om zL).call 56 [.d (Enc.enc v10), .ptr pja1c0 pta1c0 pga1c0 0, .ptr pja1c1 pta1c1 pga1c1 0] (low ++ [⟨e, none⟩]) c = some (.d (.bool ((Cm v10 a1c0x a1c1x))), low ++ [⟨e, none⟩], TU zL 56 [.d (Enc.enc v10), .ptr pja1c0 pta1c0 pga1c0 0, .ptr pja1c1 pta1c1 pga1c1 0] (low ++ [⟨e, none⟩]) c) := fun e c => LW.om (JM v10 a1c0x a1c1x (Ha ba1c0) (Ha ba1c1)) c
   have q14 := @f12
   refine Ra hl hf ?_
   rintro g13 s r hl hf
   refine Fg r.2.2.2.2.2.1 k3 (fun c15 k3 => ?_) fun c15 k3 => ?_
   ·refine Ra hl hf ?_
    rintro g16 s r hl hf
    obtain rfl := oK k3
    exact ⟨by decide, ⟨rfl, ⟨Or.inr rfl, hl, AU (AO r.1)⟩⟩⟩
   refine Ra hl hf ?_
   rintro g17 s r hl hf
   obtain rfl := oK k3
   exact ⟨rfl, r, hl, hf⟩
  obtain rfl := oK k2
  exact ⟨by decide, ⟨rfl, trivial, hl, hf⟩⟩
 intro j s hq
 rcases o5 with w4 | _
 ·try dsimp only at k1 hq
  obtain ⟨rfl, hq⟩ := hq
  cases oK k1
  exact hq
 try dsimp only at k1 hq
 obtain ⟨rfl, -, hl, hf⟩ := hq
 refine Ra hl hf ?_
 rintro g18 s r hl hf
 cases oK k1
 exact ⟨Or.inr rfl, hl, AU (AO r.1)⟩
theorem EZ {low : List Fr} {a0 : (Sl AC)} {a1c0x : AD} {a1c1x : Int} {pja1c0 : Nat} {pta1c0 : Nat} {pga1c0 : Nat} {pja1c1 : Nat} {pta1c1 : Nat} {pga1c1 : Nat} (ba1c0 : Im low pja1c0 pta1c0 = some (.box pga1c0 ((Enc.cells a1c0x).map LV.d))) (ba1c1 : Im low pja1c1 pta1c1 = some (.box pga1c1 [.d (.int a1c1x)])) {r : Bool} (k0 : BJ a0 a1c0x a1c1x = some r) : LW zL 55 [.d (Enc.enc a0), .fn 56 [] [.ptr pja1c0 pta1c0 pga1c0 0, .ptr pja1c1 pta1c1 pga1c1 0]] low (.d (.bool r)) := by
 unfold BJ at k0; replace k0 := kq k0
 refine ir Nz N9 ?_
 rintro s r hl hf
 refine Ra hl hf ?_
 rintro g1 s r hl hf
 obtain ⟨v2, h3, k1⟩ := bnk k0
 have f4 : ∀ (e : Env) (c : Nat), (om zL).call 72 [.d (Enc.enc a0), .fn 56 [] [.ptr pja1c0 pta1c0 pga1c0 0, .ptr pja1c1 pta1c1 pga1c1 0]] (low ++ [⟨e, none⟩]) c = some (.d (.int (v2)), low ++ [⟨e, none⟩], TU zL 72 [.d (Enc.enc a0), .fn 56 [] [.ptr pja1c0 pta1c0 pga1c0 0, .ptr pja1c1 pta1c1 pga1c1 0]] (low ++ [⟨e, none⟩]) c) := fun e c => LW.om (Ol (Ha ba1c0) (Ha ba1c1) h3) c
 have q6 := @f4
 refine Ra hl hf ?_
 rintro g5 s r hl hf
 cases oK k1
 exact ⟨Or.inr rfl, hl, AU (AO r.1)⟩
theorem K2 {σ : Type} {yf : (Sl AC) → σ → Option (Bool × σ)} (n : Nat) : ∀ (R : σ → List Fr → Prop) (N : Nat), (∀ s low, R s low → low.length = N) → ∀ (yj yg : Nat), Ie zL R yj yg (fun (x : (Sl AC)) => [.d (Enc.enc x)]) yf → ∀ (a0 : (Sl AC)) (a1 : (Sl AD)) (a2 : (Ar 24 Int)) (a5 : AB) (pja3 : Nat) (pta3 : Nat) (pga3 : Nat) (pja4 : Nat) (pta4 : Nat) (pga4 : Nat), (∀ st low, R st low → Im low pja3 pta3 = some (.box pga3 [.yield yj yg])) → (∀ st low, R st low → Im low pja4 pta4 = some (.box pga4 [.fn 54 [] [.ptr pja3 pta3 pga3 0, .ptr pja4 pta4 pga4 0, .d (.fptr (Enc.cells a5) 0)]])) → ∀ (low : List Fr) (st : σ), R st low → ∀ r : Bool × σ, AW yf n a0 a1 a2 a5 st = some r → kg zL 54 [.d (Enc.enc a0), .d (Enc.enc a1), .d (Enc.enc a2), .ptr pja3 pta3 pga3 0, .ptr pja4 pta4 pga4 0, .d (.fptr (Enc.cells a5) 0)] R low (.d (.bool r.1)) r.2 := by
 induction n with
 | zero => intro R N hN yj yg hy a0 a1 a2 a5 pja3 pta3 pga3 pja4 pta4 pga4 ba3S ba4S low st hR r k0; simp [AW] at k0
 | succ n ih =>
  intro R N hN yj yg hy a0 a1 a2 a5 pja3 pta3 pga3 pja4 pta4 pga4 ba3S ba4S low st hR r k0
  simp only [AW] at k0; replace k0 := kq k0
  refine wm Bz Hq ?_
  rintro s r hl hf
  have q80 := @dy
  have hlN : low.length = N := hN _ _ hR
  have ba3 := ba3S _ _ hR
  have ba4 := ba4S _ _ hR
  refine Ra hl hf ?_
  rintro g1 s r hl hf
  refine Ra hl hf ?_
  rintro g2 s r hl hf
  refine Fg r.2.2.2.2.2.2.1 k0 (fun c3 k0 => ?_) fun c3 k0 => ?_
  ·obtain ⟨⟨v4, t5⟩, h6, k1⟩ := bnk k0
   dsimp only at k1
   refine regS (B := Bz) (low := low) (Q := R t5) [B_ 9 v4] hl hf ?_ ?_
   ·have f7 : ∀ (fr : Fr) (c : Nat), (om zL).round yj yg [.d (Enc.enc a0)] (low ++ [fr]) c = some (v4, oH zL yj yg [.d (Enc.enc a0)] (low ++ [fr]) c ++ [fr], vT zL yj yg [.d (Enc.enc a0)] (low ++ [fr]) c) ∧ R t5 (oH zL yj yg [.d (Enc.enc a0)] (low ++ [fr]) c) ∧ (oH zL yj yg [.d (Enc.enc a0)] (low ++ [fr]) c).length = low.length := fun fr c => hy.om hN hR h6 fr c
    simp only [rs, kY, Dc, hl, nob hf, hlN, r, (Eu ba3), (fun fr c => (f7 fr c).1), (fun fr c => (f7 fr c).2.1), (fun fr c => (f7 fr c).2.2), reduceCtorEq, Nat.reduceEqDiff, Nat.reduceAdd]
   rintro s r hR0 hf
   obtain ⟨low, hl⟩ : ∃ l, s.low = l := ⟨_, rfl⟩
   rw [hl] at hR0
   have hR := hR0
   have hlN : low.length = N := hN _ _ hR
   have ba3 := ba3S _ _ hR
   have ba4 := ba4S _ _ hR
   cases oK k1
   exact ⟨Or.inr rfl, (by rw [hl]; exact hR), AU (AO r.1)⟩
  obtain ⟨v8, h9, k2⟩ := bnk k0
  refine Ra hl hf ?_
  rintro g10 s r hl hf
  refine Fg r.2.2.2.2.2.1 k2 (fun c11 k2 => ?_) fun c11 k2 => ?_
  ·obtain ⟨v12, h13, k3⟩ := bnk k2
   obtain ⟨⟨v14, t15⟩, h16, k4⟩ := bnk k3
   dsimp only at k4
   refine regS (B := Bz) (low := low) (Q := R t15) [B_ 9 v14] hl hf ?_ ?_
   ·have f17 : ∀ (e : Env) (c : Nat), (om zL).call 54 [.d (Enc.enc a0), .d (Enc.enc v12), .d (Enc.enc a2), .ptr pja3 pta3 pga3 0, .ptr pja4 pta4 pga4 0, .d (.fptr (Enc.cells a5) 0)] (low ++ [⟨e, none⟩]) c = some (.d (.bool v14), Z9 zL 54 [.d (Enc.enc a0), .d (Enc.enc v12), .d (Enc.enc a2), .ptr pja3 pta3 pga3 0, .ptr pja4 pta4 pga4 0, .d (.fptr (Enc.cells a5) 0)] (low ++ [⟨e, none⟩]) c ++ [⟨e, none⟩], TU zL 54 [.d (Enc.enc a0), .d (Enc.enc v12), .d (Enc.enc a2), .ptr pja3 pta3 pga3 0, .ptr pja4 pta4 pga4 0, .d (.fptr (Enc.cells a5) 0)] (low ++ [⟨e, none⟩]) c) ∧ R t15 (Z9 zL 54 [.d (Enc.enc a0), .d (Enc.enc v12), .d (Enc.enc a2), .ptr pja3 pta3 pga3 0, .ptr pja4 pta4 pga4 0, .d (.fptr (Enc.cells a5) 0)] (low ++ [⟨e, none⟩]) c) ∧ (Z9 zL 54 [.d (Enc.enc a0), .d (Enc.enc v12), .d (Enc.enc a2), .ptr pja3 pta3 pga3 0, .ptr pja4 pta4 pga4 0, .d (.fptr (Enc.cells a5) 0)] (low ++ [⟨e, none⟩]) c).length = low.length := fun e c => kg.om hN hR (ih (qt R ⟨e, none⟩) (N + 1) (S3 hN _) yj yg (hy.push _) a0 v12 a2 a5 _ _ _ _ _ _ (HE ba3S _) (HE ba4S _) _ _ ⟨low, rfl, hR⟩ _ h16) c
    simp only [rs, ps, He, Iw, Dc, hl, nob hf, hlN, r, (Eu ba4), (lZ (sz := 4) rfl h13), (fun e c => (f17 e c).1), (fun e c => (f17 e c).2.1), (fun e c => (f17 e c).2.2), reduceCtorEq, Nat.reduceEqDiff, Nat.reduceAdd]
   rintro s r hR0 hf
   obtain ⟨low, hl⟩ : ∃ l, s.low = l := ⟨_, rfl⟩
   rw [hl] at hR0
   have hR := hR0
   have hlN : low.length = N := hN _ _ hR
   have ba3 := ba3S _ _ hR
   have ba4 := ba4S _ _ hR
   cases oK k4
   exact ⟨Or.inr rfl, (by rw [hl]; exact hR), AU (AO r.1)⟩
  obtain ⟨v18, h19, k5⟩ := bnk k2
  try clear h9
  refine Ra hl hf ?_
  rintro g20 s r hl hf
  have q22 := fun s ro => ci (n := 2) s ro a5.able v18.at_ (Sl.nil : (Sl Int)) (.nils) rfl (by decide) rfl
  refine Ra hl hf ?_
  rintro g21 s r hl hf
  refine Ra hl hf ?_
  rintro g23 s r hl hf
  refine blk ?_
  obtain ⟨o28, l29, k6⟩ := bnk k5
  refine BG (f := Aj (AW yf n) a0 a1 a2 a5 v18) (E := fun (x : σ × Int) s => Dn [E_ 0 a0, E_ 1 a1, (4, .v (.ptr pja4 pta4 pga4 0)), (5, .v (.d (.fptr (Enc.cells a5) 0))), C_ 8 g1 a2, C_ 10 (g20 + 1 + 1 + 1 + 1 + 1) v18, I_ 11 a0.len, E_ 12 ((Mp.get a5.able (Bc.key v18.at_)).getD (Sl.nil : (Sl Int))), I_ 13 x.2] s ∧ R x.1 s.low ∧ NoB Bz s) (Q := fun (o : ((Bool × σ) ⊕ (σ))) j s => match o with | .inl w26 => j = .ret ∧ wo Hq.1 R w26.2 (.d (.bool w26.1)) .ret s | .inr y27 => j = .exit 0 ∧ Dn [C_ 8 g1 a2, C_ 10 (g20 + 1 + 1 + 1 + 1 + 1) v18] s ∧ R y27 s.low ∧ NoB Bz s) l29 ?_ ⟨r, (by rw [hl]; exact hR), hf⟩ ?_
  ·rintro ⟨x24, x25⟩ s out ⟨r, hR0, hf⟩ k7
   dsimp only at hR0 r
   obtain ⟨low, hl⟩ : ∃ l, s.low = l := ⟨_, rfl⟩
   rw [hl] at hR0
   have hR := hR0
   have hlN : low.length = N := hN _ _ hR
   have ba3 := ba3S _ _ hR
   have ba4 := ba4S _ _ hR
   simp only [Aj] at k7
   refine Ra hl hf ?_
   rintro g30 s r hl hf
   refine Fg r.2.2.2.2.2.2.2.2.2.1 k7 (fun c31 k7 => ?_) fun c31 k7 => ?_
   ·refine blk ?_
    obtain ⟨v32, h33, k8⟩ := bnk k7
    refine Ra hl hf ?_
    rintro g34 s r hl hf
    obtain ⟨v35, h36, k9⟩ := bnk k8
    refine Ra hl hf ?_
    rintro g37 s r hl hf
    obtain ⟨o45, q46, k11⟩ := bnk k9
    refine nE [E_ 0 a0, E_ 1 a1, (4, .v (.ptr pja4 pta4 pga4 0)), (5, .v (.d (.fptr (Enc.cells a5) 0))), C_ 8 g1 a2, C_ 10 (g20 + 1 + 1 + 1 + 1 + 1) v18, I_ 11 a0.len, E_ 12 ((Mp.get a5.able (Bc.key v18.at_)).getD (Sl.nil : (Sl Int))), I_ 13 x25, N_ 14 (g34 + 1 + 1 + 1 + 1) v32, I_ 15 (W ((W (v35.Week * 4)) + v32)), B_ 85 o45] hl hf ?_ ?_
    ·obtain ⟨v38, h39, q77⟩ := bnd q46
     by_cases c41 : v38 = true
     ·rw [if_pos c41] at q77
      have e1 := oI q77
      have f40 : ∀ (e : Env) (c : Nat) (z0 : Env.get 10 e = some (.box (g20 + 1 + 1 + 1 + 1 + 1) ((Enc.cells v18).map LV.d))) (z1 : Env.get 14 e = some (.box (g34 + 1 + 1 + 1 + 1) [.d (.int v32)])), (om zL).call 55 [.d (Enc.enc a0), .fn 56 [] [.ptr N 10 (g20 + 1 + 1 + 1 + 1 + 1) 0, .ptr N 14 (g34 + 1 + 1 + 1 + 1) 0]] (low ++ [⟨e, none⟩]) c = some (.d (.bool (v38)), low ++ [⟨e, none⟩], TU zL 55 [.d (Enc.enc a0), .fn 56 [] [.ptr N 10 (g20 + 1 + 1 + 1 + 1 + 1) 0, .ptr N 14 (g34 + 1 + 1 + 1 + 1) 0]] (low ++ [⟨e, none⟩]) c) := fun e c z0 z1 => LW.om (EZ (LE hlN z0) (LE hlN z1) h39) c
      simp only [rs, ps, JY, J3, hl, nob hf, hlN, r, f40, c41, ← e1, reduceCtorEq, Nat.reduceEqDiff, Nat.reduceAdd]
     rw [if_neg c41] at q77
     have c41 := eq_false_of_ne_true c41
     by_cases c42 : (decide (Bc.key a2 = Bc.key Bw)) = true
     ·rw [if_pos c42] at q77
      have e1 := oI q77
      have f40 : ∀ (e : Env) (c : Nat) (z0 : Env.get 10 e = some (.box (g20 + 1 + 1 + 1 + 1 + 1) ((Enc.cells v18).map LV.d))) (z1 : Env.get 14 e = some (.box (g34 + 1 + 1 + 1 + 1) [.d (.int v32)])), (om zL).call 55 [.d (Enc.enc a0), .fn 56 [] [.ptr N 10 (g20 + 1 + 1 + 1 + 1 + 1) 0, .ptr N 14 (g34 + 1 + 1 + 1 + 1) 0]] (low ++ [⟨e, none⟩]) c = some (.d (.bool (v38)), low ++ [⟨e, none⟩], TU zL 55 [.d (Enc.enc a0), .fn 56 [] [.ptr N 10 (g20 + 1 + 1 + 1 + 1 + 1) 0, .ptr N 14 (g34 + 1 + 1 + 1 + 1) 0]] (low ++ [⟨e, none⟩]) c) := fun e c z0 z1 => LW.om (EZ (LE hlN z0) (LE hlN z1) h39) c
      simp only [rs, ps, JY, J3, hl, nob hf, hlN, r, f40, c41, (JH).call, c42, ← e1, reduceCtorEq, Nat.reduceEqDiff, Nat.reduceAdd]
     rw [if_neg c42] at q77
     have c42 := eq_false_of_ne_true c42
     obtain ⟨v43, h44, q78⟩ := bnd q77
     have e1 := oI q78
     have f40 : ∀ (e : Env) (c : Nat) (z0 : Env.get 10 e = some (.box (g20 + 1 + 1 + 1 + 1 + 1) ((Enc.cells v18).map LV.d))) (z1 : Env.get 14 e = some (.box (g34 + 1 + 1 + 1 + 1) [.d (.int v32)])), (om zL).call 55 [.d (Enc.enc a0), .fn 56 [] [.ptr N 10 (g20 + 1 + 1 + 1 + 1 + 1) 0, .ptr N 14 (g34 + 1 + 1 + 1 + 1) 0]] (low ++ [⟨e, none⟩]) c = some (.d (.bool (v38)), low ++ [⟨e, none⟩], TU zL 55 [.d (Enc.enc a0), .fn 56 [] [.ptr N 10 (g20 + 1 + 1 + 1 + 1 + 1) 0, .ptr N 14 (g34 + 1 + 1 + 1 + 1) 0]] (low ++ [⟨e, none⟩]) c) := fun e c z0 z1 => LW.om (EZ (LE hlN z0) (LE hlN z1) h39) c
     simp only [rs, ps, JY, J3, hl, nob hf, hlN, r, f40, c41, (JH).call, c42, (ES h44), (C0 h44 rfl rfl), ← e1, reduceCtorEq, Nat.reduceEqDiff, Nat.reduceAdd]
    rintro s r hl hf
    refine Fg r.2.2.2.2.2.2.2.2.2.2.2.1 k11 (fun c50 k11 => ?_) fun c50 k11 => ?_
    ·refine Ra hl hf ?_
     rintro g51 s r hl hf
     obtain rfl := oK k11
     exact ⟨rfl, r, (by rw [hl]; exact hR), hf⟩
    refine Ra hl hf ?_
    rintro g52 s r hl hf
    obtain ⟨v53, h54, k12⟩ := bnk k11
    have q56 := ES h54
    have q57 := C0 h54 rfl rfl
    have q58 := tJ h54
    refine Ra hl hf ?_
    rintro g55 s r hl hf
    obtain ⟨v59, h60, k13⟩ := bnk k12
    try clear h13
    obtain ⟨v61, h62, k14⟩ := bnk k13
    have q64 := lZ (sz := 4) rfl h60
    have q65 := Es (sz := 4) (x := (Sl.hot [(AD.mk v18.at_ (W (v18.many - 1)) (W (x25 + 1)))] : Sl AD)) (y := v59) rfl rfl h62
    refine Ra hl hf ?_
    rintro g63 s r hl hf
    obtain ⟨v66, h67, k15⟩ := bnk k14
    obtain ⟨v68, h69, k16⟩ := bnk k15
    obtain ⟨⟨v70, t71⟩, h72, k17⟩ := bnk k16
    dsimp only at k17
    refine regS (B := Bz) (low := low) (Q := R t71) [E_ 0 a0, E_ 1 a1, (4, .v (.ptr pja4 pta4 pga4 0)), (5, .v (.d (.fptr (Enc.cells a5) 0))), C_ 8 g1 a2, C_ 10 (g20 + 1 + 1 + 1 + 1 + 1) v18, I_ 11 a0.len, E_ 12 ((Mp.get a5.able (Bc.key v18.at_)).getD (Sl.nil : (Sl Int))), I_ 13 x25, B_ 122 (!v70)] hl hf ?_ ?_
    ·have f73 : ∀ (e : Env) (c : Nat), (om zL).call 54 [.d (Enc.enc v68), .d (Enc.enc v61), .d (Enc.enc (a2.put (W ((W (v35.Week * 4)) + v32)) (W (v53 + 1)))), .ptr pja3 pta3 pga3 0, .ptr pja4 pta4 pga4 0, .d (.fptr (Enc.cells a5) 0)] (low ++ [⟨e, none⟩]) c = some (.d (.bool v70), Z9 zL 54 [.d (Enc.enc v68), .d (Enc.enc v61), .d (Enc.enc (a2.put (W ((W (v35.Week * 4)) + v32)) (W (v53 + 1)))), .ptr pja3 pta3 pga3 0, .ptr pja4 pta4 pga4 0, .d (.fptr (Enc.cells a5) 0)] (low ++ [⟨e, none⟩]) c ++ [⟨e, none⟩], TU zL 54 [.d (Enc.enc v68), .d (Enc.enc v61), .d (Enc.enc (a2.put (W ((W (v35.Week * 4)) + v32)) (W (v53 + 1)))), .ptr pja3 pta3 pga3 0, .ptr pja4 pta4 pga4 0, .d (.fptr (Enc.cells a5) 0)] (low ++ [⟨e, none⟩]) c) ∧ R t71 (Z9 zL 54 [.d (Enc.enc v68), .d (Enc.enc v61), .d (Enc.enc (a2.put (W ((W (v35.Week * 4)) + v32)) (W (v53 + 1)))), .ptr pja3 pta3 pga3 0, .ptr pja4 pta4 pga4 0, .d (.fptr (Enc.cells a5) 0)] (low ++ [⟨e, none⟩]) c) ∧ (Z9 zL 54 [.d (Enc.enc v68), .d (Enc.enc v61), .d (Enc.enc (a2.put (W ((W (v35.Week * 4)) + v32)) (W (v53 + 1)))), .ptr pja3 pta3 pga3 0, .ptr pja4 pta4 pga4 0, .d (.fptr (Enc.cells a5) 0)] (low ++ [⟨e, none⟩]) c).length = low.length := fun e c => kg.om hN hR (ih (qt R ⟨e, none⟩) (N + 1) (S3 hN _) yj yg (hy.push _) v68 v61 (a2.put (W ((W (v35.Week * 4)) + v32)) (W (v53 + 1))) a5 _ _ _ _ _ _ (HE ba3S _) (HE ba4S _) _ _ ⟨low, rfl, hR⟩ _ h72) c
     simp only [rs, ps, Pm, TN, eH, He, Iw, Dc, hl, nob hf, hlN, r, (Eu ba4), (OY (sz := 3) rfl h67), (Es (sz := 3) (x := v66) (y := (Sl.cold [(AC.mk v18.at_.piece v18.at_.part v32)] : Sl AC)) rfl rfl h69), (rR h62), (ly h69 (by simp)), (fun e c => (f73 e c).1), (fun e c => (f73 e c).2.1), (fun e c => (f73 e c).2.2), reduceCtorEq, Nat.reduceEqDiff, Nat.reduceAdd]
    rintro s r hR0 hf
    obtain ⟨low, hl⟩ : ∃ l, s.low = l := ⟨_, rfl⟩
    rw [hl] at hR0
    have hR := hR0
    have hlN : low.length = N := hN _ _ hR
    have ba3 := ba3S _ _ hR
    have ba4 := ba4S _ _ hR
    refine RG r.2.2.2.2.2.2.2.2.2.1 k17 (fun c74 k17 => ?_) fun c74 k17 => ?_
    ·refine Ra hl hf ?_
     rintro g75 s r hl hf
     obtain rfl := oK k17
     exact ⟨rfl, r, (by rw [hl]; exact hR), hf⟩
    refine Ra hl hf ?_
    rintro g76 s r hl hf
    obtain rfl := oK k17
    exact ⟨by decide, ⟨rfl, ⟨Or.inr rfl, (by rw [hl]; exact hR), AU (AO r.1)⟩⟩⟩
   obtain rfl := oK k7
   exact ⟨by decide, ⟨rfl, ⟨r.2.2.2.2.1, r.2.2.2.2.2.1, trivial⟩, (by rw [hl]; exact hR), hf⟩⟩
  intro j s hq
  rcases o28 with w26 | y27
  ·try dsimp only at k6 hq
   obtain ⟨rfl, hq⟩ := hq
   cases oK k6
   exact hq
  try dsimp only at k6 hq
  obtain ⟨rfl, r, hR0, hf⟩ := hq
  obtain ⟨low, hl⟩ : ∃ l, s.low = l := ⟨_, rfl⟩
  rw [hl] at hR0
  have hR := hR0
  have hlN : low.length = N := hN _ _ hR
  have ba3 := ba3S _ _ hR
  have ba4 := ba4S _ _ hR
  refine Ra hl hf ?_
  rintro g79 s r hl hf
  cases oK k6
  exact ⟨Or.inr rfl, (by rw [hl]; exact hR), AU (AO r.1)⟩
theorem Ht {σ : Type} {R : σ → List Fr → Prop} {N : Nat} (hN : ∀ s low, R s low → low.length = N) {yf : (Sl AC) → σ → Option (Bool × σ)} {yj yg : Nat} (hy : Ie zL R yj yg (fun (x : (Sl AC)) => [.d (Enc.enc x)]) yf) {a1 : AB} {a2 : (Sl AD)} {low : List Fr} {st : σ} (hR : R st low) {r : Unit × σ} (k0 : BX yf a1 a2 st = some r) : kg zL 53 [.yield yj yg, .d (.fptr (Enc.cells a1) 0), .d (.fptr [Enc.enc a2] 0)] R low (.d (.tup [])) r.2 := by
 unfold BX at k0; replace k0 := kq k0
 refine wm Jt Qx ?_
 rintro s r hl hf
 have hlN : low.length = N := hN _ _ hR
 refine Ra hl hf ?_
 rintro g1 s r hl hf
 refine Ra hl hf ?_
 rintro g2 s r hl hf
 have q4 := @O5
 refine Ra hl hf ?_
 rintro g3 s r hl hf
 obtain ⟨⟨v5, t6⟩, h7, k1⟩ := bnk k0
 dsimp only at k1
 refine regS (B := Jt) (low := low) (Q := R t6) [] hl hf ?_ ?_
 ·have f8 : ∀ (e : Env) (c : Nat) (z0 : Env.get 3 e = some (.box g1 [.yield yj yg])) (z1 : Env.get 4 e = some (.box g2 [.fn 54 [] [.ptr N 3 g1 0, .ptr N 4 g2 0, .d (.fptr (Enc.cells a1) 0)]])), (om zL).call 54 [.d .nils, .d (Enc.enc a2), .d (Enc.enc Bw), .ptr N 3 g1 0, .ptr N 4 g2 0, .d (.fptr (Enc.cells a1) 0)] (low ++ [⟨e, none⟩]) c = some (.d (.bool v5), Z9 zL 54 [.d .nils, .d (Enc.enc a2), .d (Enc.enc Bw), .ptr N 3 g1 0, .ptr N 4 g2 0, .d (.fptr (Enc.cells a1) 0)] (low ++ [⟨e, none⟩]) c ++ [⟨e, none⟩], TU zL 54 [.d .nils, .d (Enc.enc a2), .d (Enc.enc Bw), .ptr N 3 g1 0, .ptr N 4 g2 0, .d (.fptr (Enc.cells a1) 0)] (low ++ [⟨e, none⟩]) c) ∧ R t6 (Z9 zL 54 [.d .nils, .d (Enc.enc a2), .d (Enc.enc Bw), .ptr N 3 g1 0, .ptr N 4 g2 0, .d (.fptr (Enc.cells a1) 0)] (low ++ [⟨e, none⟩]) c) ∧ (Z9 zL 54 [.d .nils, .d (Enc.enc a2), .d (Enc.enc Bw), .ptr N 3 g1 0, .ptr N 4 g2 0, .d (.fptr (Enc.cells a1) 0)] (low ++ [⟨e, none⟩]) c).length = low.length := fun e c z0 z1 => kg.om hN hR (K2 64 (qt R ⟨e, none⟩) (N + 1) (S3 hN _) yj yg (hy.push _) (Sl.nil : (Sl AC)) a2 Bw a1 _ _ _ _ _ _ (LN hN z0) (LN hN z1) _ _ ⟨low, rfl, hR⟩ _ h7) c
  simp only [rs, Br, He, Iw, Dc, hl, nob hf, hlN, r, (JH).call, (fun e c z0 z1 => (f8 e c z0 z1).1), (fun e c z0 z1 => (f8 e c z0 z1).2.1), (fun e c z0 z1 => (f8 e c z0 z1).2.2), reduceCtorEq, Nat.reduceEqDiff, Nat.reduceAdd]
 rintro s - hR0 hf
 obtain ⟨low, hl⟩ : ∃ l, s.low = l := ⟨_, rfl⟩
 rw [hl] at hR0
 have hR := hR0
 have hlN : low.length = N := hN _ _ hR
 cases oK k1
 exact ⟨Or.inl rfl, (by rw [hl]; exact hR), oG _⟩
theorem QR {a0 : AB} {a1 : (Sl AD)} {r : ((Sl AC) × Bool)} (k0 : Bd a0 a1 = some r) : Fin zL 33 [Enc.enc a0, Enc.enc a1] (Enc.enc r) := by
 unfold Bd at k0; replace k0 := kq k0
 refine fnN FP SX ?_
 rintro low s ⟨r0, r1, -⟩ hl hf
 refine Ra hl hf ?_
 rintro g1 s ⟨r1, r2, r4, r5, -⟩ hl hf
 obtain ⟨c2, hc2⟩ := Il (LP := zL) (ds := [Enc.enc a0, Enc.enc a1]) (fun low => LY (low := low) a0 a1); simp only [List.map_cons, List.map_nil] at hc2
 have q4 := @hc2
 refine Ra hl hf ?_
 rintro g3 s ⟨r4, r5, r9, -⟩ hl hf
 refine blk ?_
 obtain ⟨⟨_, o10⟩, l11, k3⟩ := bnk k0
 refine Run.rng (B := FP) (base := low) (n := 53) (a := []) (b := [.d (.fptr (Enc.cells a0) 0), .d (.fptr [Enc.enc a1] 0)]) (jm := fun (x : (Sl AC)) => match x with | _ => Jmp.ret) (l := fun (o : (Unit) ⊕ (Sl AC)) => match o with | .inl _ => [(4, .box (g1 + 1) [.d (Enc.enc (Sl.nil : (Sl AC)))]), (5, .box (g1 + 1 + 1) [.d (.bool false)]), (9, .v (.d (.fn 53 [] [.fptr (Enc.cells a0) 0, .fptr [Enc.enc a1] 0])))] | .inr y6 => [(4, .box (g1 + 1) [Sl.lv y6]), (5, .box (g1 + 1 + 1) [.d (.bool true)]), (9, .v (.d (.fn 53 [] [.fptr (Enc.cells a0) 0, .fptr [Enc.enc a1] 0])))]) (t0 := ()) (st' := o10) (v := .d (.tup [])) hl hf (by simp only [Qh, KY, G7, r9, Jw, QK, XJ, dn, List.map_cons, List.map_nil]) ⟨r4, r5, r9, trivial⟩ ?_ ?_
 ·intro g low1 hc
  refine Ht (R := sf FP low g [10] _ _ (fun (x : (Sl AC)) => match x with | _ => Jmp.ret) (fun (o : (Unit) ⊕ (Sl AC)) => match o with | .inl _ => [(4, .box (g1 + 1) [.d (Enc.enc (Sl.nil : (Sl AC)))]), (5, .box (g1 + 1 + 1) [.d (.bool false)]), (9, .v (.d (.fn 53 [] [.fptr (Enc.cells a0) 0, .fptr [Enc.enc a1] 0])))] | .inr y6 => [(4, .box (g1 + 1) [Sl.lv y6]), (5, .box (g1 + 1 + 1) [.d (.bool true)]), (9, .v (.d (.fn 53 [] [.fptr (Enc.cells a0) 0, .fptr [Enc.enc a1] 0])))])) (fun st l h => db st l h) ?_  hc l11
  refine Kv (by decide) (fun _ => rfl) ?_
  rintro a5 _ out k1 e above low0 lw lp s hr ha hr0 hBB hl hf
  obtain ⟨e4, e5, e9, -⟩ := hr0
  have r4 : s.raw 4 = some (.v (.ptr low.length 4 (g1 + 1) 0)) := hr 4 _ rfl e4
  have r5 : s.raw 5 = some (.v (.ptr low.length 5 (g1 + 1 + 1) 0)) := hr 5 _ rfl e5
  have r9 : s.raw 9 = some (.v (.d (.fn 53 [] [.fptr (Enc.cells a0) 0, .fptr [Enc.enc a1] 0]))) := hr 9 _ rfl e9
  obtain ⟨r10, -⟩ := ha
  unfold Ce at k1
  replace k1 := kq k1
  refine Nx.run <| Ra hl hf ?_
  rintro g7 s ⟨r4, r5, r6, -⟩ hl hf
  refine ⟨rfl, hl, ?_⟩
  intro s2 hraw hl
  replace r4 := (hraw 4).trans r4
  replace r5 := (hraw 5).trans r5
  replace r6 := (hraw 6).trans r6
  replace hf := NoB.congr hf hraw
  clear hraw
  obtain ⟨s, hs⟩ : ∃ q, q = s2 := ⟨_, rfl⟩
  rw [← hs] at r4 r5 r6 hl hf
  rw [← hs]
  clear hs s2
  have hB := hBB
  obtain ⟨m4, m5, m9, -⟩ := KA.all hB
  have hlt : low.length < lw.length := by have := KA.len hB; omega
  refine Nx.run <| blk ?_
  obtain ⟨v8, h9, k2⟩ := bnk k1
  refine regS (B := FP) (low := lw) (Q := fun q => q = (Du (Du lw low.length 4 (.box (g1 + 1) [Sl.lv v8])) low.length 5 (.box (g1 + 1 + 1) [.d (.bool true)]))) [] hl hf ?_ ?_
  ·simp only [rs, LL, JS, IE, PU, PK, hl, nob hf, r4, r5, r6, m4, m5, m9, hlt, (OY (sz := 3) rfl h9), (U0 (x := v8)), (YK (v := .bool true)), reduceCtorEq, Nat.reduceEqDiff, Nat.reduceAdd]
  rintro s - hl hf
  replace hl : s.low = (Du (Du lw low.length 4 (.box (g1 + 1) [Sl.lv v8])) low.length 5 (.box (g1 + 1 + 1) [.d (.bool true)])) := hl
  replace hB := KA.set (l' := [(4, .box (g1 + 1) [Sl.lv v8]), (5, .box (g1 + 1 + 1) [.d (.bool false)]), (9, .v (.d (.fn 53 [] [.fptr (Enc.cells a0) 0, .fptr [Enc.enc a1] 0])))]) hB 4 _ rfl (fun s ⟨q4, q5, q9, _⟩ => ⟨(by rw [An, if_pos rfl]), (by rw [An, if_neg (by decide)]; exact q5), (by rw [An, if_neg (by decide)]; exact q9), trivial⟩)
  replace hB := KA.set (l' := [(4, .box (g1 + 1) [Sl.lv v8]), (5, .box (g1 + 1 + 1) [.d (.bool true)]), (9, .v (.d (.fn 53 [] [.fptr (Enc.cells a0) 0, .fptr [Enc.enc a1] 0])))]) hB 5 _ rfl (fun s ⟨q4, q5, q9, _⟩ => ⟨(by rw [An, if_neg (by decide)]; exact q4), (by rw [An, if_pos rfl]), (by rw [An, if_neg (by decide)]; exact q9), trivial⟩)
  obtain ⟨lw, hlow⟩ : ∃ q, q = (Du (Du lw low.length 4 (.box (g1 + 1) [Sl.lv v8])) low.length 5 (.box (g1 + 1 + 1) [.d (.bool true)])) := ⟨_, rfl⟩
  rw [← hlow] at hl hB
  obtain ⟨m4, m5, m9, -⟩ := KA.all hB
  have hlt : low.length < lw.length := by have := KA.len hB; omega
  obtain rfl := oK k2
  exact ⟨rfl, rfl, (show Jmp.ret ≠ Jmp.normal by decide), by rw [hl]; exact WL hB (fun s ⟨q4, q5, q9, _⟩ => ⟨q4, q5, q9, trivial⟩)⟩
 ·intro s hl hf hq
  rcases o10 with _ | y6
  ·try dsimp only at k3 hq
   obtain ⟨r4, r5, r9, -⟩ := hq
   refine sX ?_
   have q13 := @jd
   refine Ra hl hf ?_
   rintro g12 s ⟨r4, r5, -⟩ hl hf
   cases oK k3
   exact ⟨Or.inr rfl, hl, Bn (YA r4) (YA r5)⟩
  ·try dsimp only at k3 hq
   obtain ⟨r4, r5, r9, -⟩ := hq
   refine sX ?_
   cases oK k3
   exact ⟨Or.inr rfl, hl, Bn (XO r4) (YA r5)⟩
def HW := fun a0 a1 => Cq.mk (@QR a0 a1)
theorem Kt (n : Nat) : ∀ (low : List Fr) (a0 : (Sl Int)) (a1 : Int) (a2x : AB) (pja2 : Nat) (pta2 : Nat) (pga2 : Nat) (pja3 : Nat) (pta3 : Nat) (pga3 : Nat), Im low pja2 pta2 = some (.box pga2 ((Enc.cells a2x).map LV.d)) → Im low pja3 pta3 = some (.box pga3 [.fn 63 [] [.ptr pja2 pta2 pga2 0, .ptr pja3 pta3 pga3 0]]) → ∀ r : (T3 (Sl Int) (Sl AC) Bool), Ae n a0 a1 a2x = some r → LW zL 63 [.d (Enc.enc a0), .d (.int a1), .ptr pja2 pta2 pga2 0, .ptr pja3 pta3 pga3 0] low (.d (Enc.enc r)) := by
 induction n with
 | zero => intro low a0 a1 a2x pja2 pta2 pga2 pja3 pta3 pga3 ba2 ba3 r k0; simp [Ae] at k0
 | succ n ih =>
  intro low a0 a1 a2x pja2 pta2 pga2 pja3 pta3 pga3 ba2 ba3 r k0
  simp only [Ae] at k0; replace k0 := kq k0
  refine ir Dz Hn ?_
  rintro s r hl hf
  have q52 := @T9
  have q53 := @HW
  have q54 := @FZ
  refine Ra hl hf ?_
  rintro g1 s r hl hf
  refine Ra hl hf ?_
  rintro g2 s r hl hf
  refine Ra hl hf ?_
  rintro g3 s r hl hf
  refine Fg r.2.2.2.2.2.1 k0 (fun c4 k0 => ?_) fun c4 k0 => ?_
  ·obtain ⟨v5, h6, k1⟩ := bnk k0
   obtain ⟨v7, h8, k2⟩ := bnk k1
   obtain ⟨v9, h10, k3⟩ := bnk k2
   have q12 := Eu ba2
   have q13 := Eu ba2
   have q14 := Eu ba2
   refine Ra hl hf ?_
   rintro g11 s r hl hf
   refine Ra hl hf ?_
   rintro g15 s r hl hf
   cases oK k3
   exact ⟨Or.inr rfl, hl, XB (AO r.1) (AO r.2.1) (AO r.2.2.1)⟩
  refine Ra hl hf ?_
  rintro g16 s r hl hf
  refine Ra hl hf ?_
  rintro g17 s r hl hf
  obtain ⟨o19, k4, k5⟩ := bnk k0
  replace k4 := kq k4
  refine zj (Q := (fun (y18 : Int) j s => j = .normal ∧ Dn [E_ 0 a0, I_ 1 a1, (2, .v (.ptr pja2 pta2 pga2 0)), (3, .v (.ptr pja3 pta3 pga3 0)), I_ 9 a0.len, I_ 12 y18] s ∧ s.low = low ∧ NoB Dz s) o19) ?_ ?_
  ·refine Fg r.2.2.2.2.2.2.1 k4 (fun c20 k4 => ?_) fun c20 k4 => ?_
   ·obtain ⟨v21, h22, k6⟩ := bnk k4
    refine Ra hl hf ?_
    rintro g23 s r hl hf
    obtain rfl := oK k6
    exact ⟨rfl, r, hl, hf⟩
   obtain rfl := oK k4
   exact ⟨rfl, ⟨r.1, r.2.1, r.2.2.1, r.2.2.2.1, r.2.2.2.2.1, r.2.2.2.2.2.1, trivial⟩, hl, hf⟩
  intro j s hq
  obtain ⟨y18, rfl⟩ : ∃ x, x = o19 := ⟨_, rfl⟩
  try dsimp only at k5 hq
  obtain ⟨rfl, r, hl, hf⟩ := hq
  refine Ra hl hf ?_
  rintro g24 s r hl hf
  refine blk ?_
  obtain ⟨o27, l28, k7⟩ := bnk k5
  refine BG (f := A3 (Ae n) a0 a1 a2x) (E := fun (x : Int) s => Dn [E_ 0 a0, I_ 1 a1, (2, .v (.ptr pja2 pta2 pga2 0)), (3, .v (.ptr pja3 pta3 pga3 0)), I_ 9 a0.len, I_ 13 x] s ∧ s.low = low ∧ NoB Dz s) (Q := fun (o : ((T3 (Sl Int) (Sl AC) Bool) ⊕ (Unit))) j s => match o with | .inl w26 => j = .ret ∧ FnJ Hn.1 low (.d (Enc.enc w26)) .ret s | .inr _ => j = .exit 0 ∧ Dn [] s ∧ s.low = low ∧ NoB Dz s) l28 ?_ ⟨r, hl, hf⟩ ?_
  ·rintro x25 s out ⟨r, hl, hf⟩ k8
   unfold A3 at k8
   have q30 := Eu ba2
   refine Ra hl hf ?_
   rintro g29 s r hl hf
   refine Fg r.2.2.2.2.2.2.1 k8 (fun c31 k8 => ?_) fun c31 k8 => ?_
   ·refine blk ?_
    obtain ⟨v32, h33, k9⟩ := bnk k8
    obtain ⟨v34, h35, k10⟩ := bnk k9
    obtain ⟨v36, h37, k11⟩ := bnk k10
    have q40 := @Iw
    have q41 := @qY
    have q42 := Eu ba3
    have q43 := OY (sz := 1) rfl h33
    have q44 := Es (sz := 1) (x := v32) (y := (Sl.cold [x25] : Sl Int)) rfl rfl h35
    have f38 : ∀ (e : Env) (c : Nat), (om zL).call 63 [.d (Enc.enc v34), .d (.int a1), .ptr pja2 pta2 pga2 0, .ptr pja3 pta3 pga3 0] (low ++ [⟨e, none⟩]) c = some (.d (Enc.enc (v36)), low ++ [⟨e, none⟩], TU zL 63 [.d (Enc.enc v34), .d (.int a1), .ptr pja2 pta2 pga2 0, .ptr pja3 pta3 pga3 0] (low ++ [⟨e, none⟩]) c) := fun e c => LW.om (ih (low ++ [(⟨e, none⟩ : Fr)]) v34 a1 a2x _ _ _ _ _ _ (Ha ba2) (Ha ba3) v36 h37) c
    have q46 := @f38
    refine Ra hl hf ?_ (h := by intro c; simp only [(ly h35 (by simp)), rt, ps, nob hf, *, reduceCtorEq, Nat.reduceEqDiff, Nat.reduceAdd, Nat.reduceMul] <;> rfl)
    rintro g39 s r hl hf
    refine Ra hl hf ?_
    rintro g47 s r hl hf
    refine Fg r.2.2.2.2.2.2.2.2.1 k11 (fun c48 k11 => ?_) fun c48 k11 => ?_
    ·refine Ra hl hf ?_
     rintro g49 s r hl hf
     obtain rfl := oK k11
     exact ⟨by decide, ⟨rfl, ⟨Or.inr rfl, hl, XB (AO r.1) (AO r.2.1) (AO r.2.2.1)⟩⟩⟩
    refine Ra hl hf ?_
    rintro g50 s r hl hf
    obtain rfl := oK k11
    exact ⟨rfl, r, hl, hf⟩
   obtain rfl := oK k8
   exact ⟨by decide, ⟨rfl, trivial, hl, hf⟩⟩
  intro j s hq
  rcases o27 with w26 | _
  ·try dsimp only at k7 hq
   obtain ⟨rfl, hq⟩ := hq
   cases oK k7
   exact hq
  try dsimp only at k7 hq
  obtain ⟨rfl, -, hl, hf⟩ := hq
  refine Ra hl hf ?_
  rintro g51 s r hl hf
  cases oK k7
  exact ⟨Or.inr rfl, hl, XB (AO r.1) (AO r.2.1) (AO r.2.2.1)⟩
theorem I9 {a0 : AB} {r : ((Sl Int) × (Sl AC))} (k0 : BR a0 = some r) : Fin zL 37 [Enc.enc a0] (Enc.enc r) := by
 unfold BR at k0; replace k0 := kq k0
 refine fnN Gv Jx ?_
 rintro low s r hl hf
 refine Ra hl hf ?_
 rintro g1 s r hl hf
 refine Ra hl hf ?_
 rintro g2 s r hl hf
 have q4 := @O5
 refine Ra hl hf ?_
 rintro g3 s r hl hf
 refine Ra hl hf ?_
 rintro g5 s r hl hf
 refine blk ?_
 obtain ⟨o8, l9, k1⟩ := bnk k0
 refine BG (f := A5 a0) (E := fun (x : Int) s => Dn [C_ 1 g1 a0, (4, .box g2 [.fn 63 [] [.ptr low.length 1 g1 0, .ptr low.length 4 g2 0]]), I_ 13 a0.BenchBook.Pieces.len, I_ 14 x] s ∧ s.low = low ∧ NoB Gv s) (Q := fun (o : (((Sl Int) × (Sl AC)) ⊕ (Unit))) j s => match o with | .inl w7 => j = .ret ∧ FnJ Jx.1 low (.d (Enc.enc w7)) .ret s | .inr _ => j = .exit 0 ∧ Dn [C_ 1 g1 a0, (4, .box g2 [.fn 63 [] [.ptr low.length 1 g1 0, .ptr low.length 4 g2 0]])] s ∧ s.low = low ∧ NoB Gv s) l9 ?_ ⟨r, hl, hf⟩ ?_
 ·rintro x6 s out ⟨r, hl, hf⟩ k2
  unfold A5 at k2
  refine Ra hl hf ?_
  rintro g10 s r hl hf
  refine Fg r.2.2.2.2.1 k2 (fun c11 k2 => ?_) fun c11 k2 => ?_
  ·refine blk <| Ra hl hf ?_
   rintro g12 s r hl hf
   obtain ⟨v13, h14, k3⟩ := bnk k2
   have q17 := @Iw
   have q18 := @qY
   have f15 : ∀ (e : Env) (c : Nat) (z0 : Env.get 1 e = some (.box g1 ((Enc.cells a0).map LV.d))) (z1 : Env.get 4 e = some (.box g2 [.fn 63 [] [.ptr low.length 1 g1 0, .ptr low.length 4 g2 0]])), (om zL).call 63 [.d .nils, .d (.int x6), .ptr low.length 1 g1 0, .ptr low.length 4 g2 0] (low ++ [⟨e, none⟩]) c = some (.d (Enc.enc (v13)), low ++ [⟨e, none⟩], TU zL 63 [.d .nils, .d (.int x6), .ptr low.length 1 g1 0, .ptr low.length 4 g2 0] (low ++ [⟨e, none⟩]) c) := fun e c z0 z1 => LW.om (Kt 64 (low ++ [(⟨e, none⟩ : Fr)]) (Sl.nil : (Sl Int)) x6 a0 _ _ _ _ _ _ (SB z0) (SB z1) v13 h14) c
   have q19 := @f15
   refine Ra hl hf ?_
   rintro g16 s r hl hf
   refine Ra hl hf ?_
   rintro g20 s r hl hf
   refine Fg r.2.2.2.2.2.2.1 k3 (fun c21 k3 => ?_) fun c21 k3 => ?_
   ·refine Ra hl hf ?_
    rintro g22 s r hl hf
    obtain rfl := oK k3
    exact ⟨by decide, ⟨rfl, ⟨Or.inr rfl, hl, Bn (AO r.1) (AO r.2.1)⟩⟩⟩
   refine Ra hl hf ?_
   rintro g23 s r hl hf
   obtain rfl := oK k3
   exact ⟨rfl, r, hl, hf⟩
  obtain rfl := oK k2
  exact ⟨by decide, ⟨rfl, ⟨r.1, r.2.1, trivial⟩, hl, hf⟩⟩
 intro j s hq
 rcases o8 with w7 | _
 ·try dsimp only at k1 hq
  obtain ⟨rfl, hq⟩ := hq
  cases oK k1
  exact hq
 try dsimp only at k1 hq
 obtain ⟨rfl, r, hl, hf⟩ := hq
 obtain ⟨v25, h26, k4⟩ := bnk k1
 obtain ⟨c24, hc24⟩ := Il (LP := zL) (ds := [Enc.enc a0, .nils]) (FW h26); simp only [List.map_cons, List.map_nil] at hc24
 have q28 := @hc24
 refine Ra hl hf ?_
 rintro g27 s r hl hf
 cases oK k4
 exact ⟨Or.inr rfl, hl, Bn (AO r.1) (AO r.2.1)⟩
def Jc := fun a0 => Cq.mk (@I9 a0)
theorem KI {low : List Fr} (a0 : Int) (a1x : Int) {pja1 : Nat} {pta1 : Nat} {pga1 : Nat} (ba1 : Im low pja1 pta1 = some (.box pga1 [.d (.int a1x)])) : LW zL 39 [.d (.int a0), .ptr pja1 pta1 pga1 0] low (.d (.bool (Ea a0 a1x))) := by
 refine ir YQ XH ?_
 rintro s r hl hf
 refine Ra hl hf ?_
 rintro g1 s r hl hf
 have q3 := Eu ba1
 refine Ra hl hf ?_
 rintro g2 s r hl hf
 exact ⟨Or.inr rfl, hl, AU (AO r.1)⟩
theorem SR {low : List Fr} {a0 : BenchBook} {a1s0c0x : Int} {pja1s0c0 : Nat} {pta1s0c0 : Nat} {pga1s0c0 : Nat} (ba1s0c0 : Im low pja1s0c0 pta1s0c0 = some (.box pga1s0c0 [.d (.int a1s0c0x)])) {r : AB} (k0 : Eh a0 a1s0c0x = some r) : LW zL 38 [.d (Enc.enc a0), .agg [.fn 39 [] [.ptr pja1s0c0 pta1s0c0 pga1s0c0 0]]] low (.d (Enc.enc r)) := by
 unfold Eh at k0; replace k0 := kq k0
 refine ir BI QD ?_
 rintro s r hl hf
 have q2 := @lQ
 have q3 := @eu
 have q4 := @Ia
 refine Ra hl hf ?_
 rintro g1 s r hl hf
 have q6 := @GG
 have q7 := @IB
 have q8 := @PR
 have q9 := @J1
 have q10 := @Ia
 have q11 := @qi
 refine Ra hl hf ?_ (h := by intro c; simp only [(UX (n := 2) (AG.mk (-1) (-1)) rfl (by decide)), (RV (LP := zL) (t := 13) (gm := c + 1) (key := (Bc.key (AG.mk (-1) (-1)))) (a := (Sl.nil : (Sl Int))) (vd := .nils) (hav := rfl)), rt, ps, nob hf, *, reduceCtorEq, Nat.reduceEqDiff, Nat.reduceAdd, Nat.reduceMul] <;> rfl)
 rintro g5 s r hl hf
 have q15 := @KW
 have q16 := @D7
 refine Ra hl hf ?_
 rintro g14 s r hl hf
 refine Ra hl hf ?_
 rintro g17 s r hl hf
 refine blk ?_
 obtain ⟨o21, l22, k1⟩ := bnk k0
 refine BG (f := EE a0 a1s0c0x) (E := fun (x : (List (List Int × (Sl Int))) × Int) s => Dn [C_ 2 g1 a0, (3, .box (g1 + 1) [.fn 39 [] [.ptr pja1s0c0 pta1s0c0 pga1s0c0 0]]), C_ 4 (g1 + 1 + 1) (AB.mk (BenchBook.mk (VoiceBook.mk (Sl.nil : (Sl AL)) 0 (Sl.nil : (Sl AI))) (Sl.nil : (Sl AK)) 0) (Mp.nil : (Mp 2 (Sl Int)))), (5, .box (g5 + 1 + 1 + 1 + 1 + 1 + 1) (AB.lc (AB.mk a0 (Mp.nil : (Mp 2 (Sl Int)))) low.length 13 (g5 + 1))), (6, .v (.fn 64 [.agg (AB.lc (AB.mk a0 (Mp.nil : (Mp 2 (Sl Int)))) low.length 13 (g5 + 1))] [])), (13, .mapo (g5 + 1) 2 (D1 x.1)), E_ 20 a0.Pieces, I_ 21 a0.Pieces.len, I_ 22 x.2] s ∧ s.low = low ∧ NoB BI s) (Q := fun (y20 : (List (List Int × (Sl Int)))) j s => j = .exit 0 ∧ Dn [C_ 2 g1 a0, (3, .box (g1 + 1) [.fn 39 [] [.ptr pja1s0c0 pta1s0c0 pga1s0c0 0]]), C_ 4 (g1 + 1 + 1) (AB.mk (BenchBook.mk (VoiceBook.mk (Sl.nil : (Sl AL)) 0 (Sl.nil : (Sl AI))) (Sl.nil : (Sl AK)) 0) (Mp.nil : (Mp 2 (Sl Int)))), (5, .box (g5 + 1 + 1 + 1 + 1 + 1 + 1) (AB.lc (AB.mk a0 (Mp.nil : (Mp 2 (Sl Int)))) low.length 13 (g5 + 1))), (13, .mapo (g5 + 1) 2 (D1 y20))] s ∧ s.low = low ∧ NoB BI s) l22 ?_ ⟨r, hl, hf⟩ ?_
 ·rintro ⟨x18, x19⟩ s out ⟨r, hl, hf⟩ k2
  dsimp only at r
  simp only [EE] at k2
  refine Ra hl hf ?_
  rintro g23 s r hl hf
  refine Fg r.2.2.2.2.2.2.2.2.2.1 k2 (fun c24 k2 => ?_) fun c24 k2 => ?_
  ·refine blk ?_
   obtain ⟨v25, h26, k3⟩ := bnk k2
   refine Ra hl hf ?_
   rintro g27 s r hl hf
   refine Ra hl hf ?_
   rintro g28 s r hl hf
   refine blk ?_
   obtain ⟨o32, l33, k4⟩ := bnk k3
   refine BG (f := EC a0 a1s0c0x x19 v25) (E := fun (x : (List (List Int × (Sl Int))) × Int) s => Dn [C_ 2 g1 a0, (3, .box (g1 + 1) [.fn 39 [] [.ptr pja1s0c0 pta1s0c0 pga1s0c0 0]]), C_ 4 (g1 + 1 + 1) (AB.mk (BenchBook.mk (VoiceBook.mk (Sl.nil : (Sl AL)) 0 (Sl.nil : (Sl AI))) (Sl.nil : (Sl AK)) 0) (Mp.nil : (Mp 2 (Sl Int)))), (5, .box (g5 + 1 + 1 + 1 + 1 + 1 + 1) (AB.lc (AB.mk a0 (Mp.nil : (Mp 2 (Sl Int)))) low.length 13 (g5 + 1))), (6, .v (.fn 64 [.agg (AB.lc (AB.mk a0 (Mp.nil : (Mp 2 (Sl Int)))) low.length 13 (g5 + 1))] [])), I_ 7 x19, (13, .mapo (g5 + 1) 2 (D1 x.1)), E_ 20 a0.Pieces, I_ 21 a0.Pieces.len, I_ 22 x19, I_ 29 v25.Parts.len, I_ 30 x.2] s ∧ s.low = low ∧ NoB BI s) (Q := fun (y31 : (List (List Int × (Sl Int)))) j s => j = .exit 2 ∧ Dn [C_ 2 g1 a0, (3, .box (g1 + 1) [.fn 39 [] [.ptr pja1s0c0 pta1s0c0 pga1s0c0 0]]), C_ 4 (g1 + 1 + 1) (AB.mk (BenchBook.mk (VoiceBook.mk (Sl.nil : (Sl AL)) 0 (Sl.nil : (Sl AI))) (Sl.nil : (Sl AK)) 0) (Mp.nil : (Mp 2 (Sl Int)))), (5, .box (g5 + 1 + 1 + 1 + 1 + 1 + 1) (AB.lc (AB.mk a0 (Mp.nil : (Mp 2 (Sl Int)))) low.length 13 (g5 + 1))), (6, .v (.fn 64 [.agg (AB.lc (AB.mk a0 (Mp.nil : (Mp 2 (Sl Int)))) low.length 13 (g5 + 1))] [])), (13, .mapo (g5 + 1) 2 (D1 y31)), E_ 20 a0.Pieces, I_ 21 a0.Pieces.len, I_ 22 x19] s ∧ s.low = low ∧ NoB BI s) l33 ?_ ⟨r, hl, hf⟩ ?_
   ·rintro ⟨x29, x30⟩ s out ⟨r, hl, hf⟩ k5
    dsimp only at r
    simp only [EC] at k5
    refine Ra hl hf ?_
    rintro g34 s r hl hf
    refine Fg r.2.2.2.2.2.2.2.2.2.2.2.2.1 k5 (fun c35 k5 => ?_) fun c35 k5 => ?_
    ·refine blk <| Ra hl hf ?_
     rintro g36 s r hl hf
     have q38 := @FS
     refine Ra hl hf ?_
     rintro g37 s r hl hf
     refine Ra hl hf ?_
     rintro g39 s r hl hf
     refine blk ?_
     obtain ⟨o43, l44, k6⟩ := bnk k5
     refine BG (f := ED a0 a1s0c0x x19 x30) (E := fun (x : (List (List Int × (Sl Int))) × Int) s => Dn [C_ 2 g1 a0, (3, .box (g1 + 1) [.fn 39 [] [.ptr pja1s0c0 pta1s0c0 pga1s0c0 0]]), C_ 4 (g1 + 1 + 1) (AB.mk (BenchBook.mk (VoiceBook.mk (Sl.nil : (Sl AL)) 0 (Sl.nil : (Sl AI))) (Sl.nil : (Sl AK)) 0) (Mp.nil : (Mp 2 (Sl Int)))), (5, .box (g5 + 1 + 1 + 1 + 1 + 1 + 1) (AB.lc (AB.mk a0 (Mp.nil : (Mp 2 (Sl Int)))) low.length 13 (g5 + 1))), (6, .v (.fn 64 [.agg (AB.lc (AB.mk a0 (Mp.nil : (Mp 2 (Sl Int)))) low.length 13 (g5 + 1))] [])), I_ 7 x19, C_ 10 (g37 + 1 + 1 + 1) (AG.mk x19 x30), (13, .mapo (g5 + 1) 2 (D1 x.1)), E_ 20 a0.Pieces, I_ 21 a0.Pieces.len, I_ 22 x19, I_ 29 v25.Parts.len, I_ 30 x30, I_ 39 a0.Voice.Boys.len, I_ 40 x.2] s ∧ s.low = low ∧ NoB BI s) (Q := fun (y42 : (List (List Int × (Sl Int)))) j s => j = .exit 4 ∧ Dn [C_ 2 g1 a0, (3, .box (g1 + 1) [.fn 39 [] [.ptr pja1s0c0 pta1s0c0 pga1s0c0 0]]), C_ 4 (g1 + 1 + 1) (AB.mk (BenchBook.mk (VoiceBook.mk (Sl.nil : (Sl AL)) 0 (Sl.nil : (Sl AI))) (Sl.nil : (Sl AK)) 0) (Mp.nil : (Mp 2 (Sl Int)))), (5, .box (g5 + 1 + 1 + 1 + 1 + 1 + 1) (AB.lc (AB.mk a0 (Mp.nil : (Mp 2 (Sl Int)))) low.length 13 (g5 + 1))), (6, .v (.fn 64 [.agg (AB.lc (AB.mk a0 (Mp.nil : (Mp 2 (Sl Int)))) low.length 13 (g5 + 1))] [])), I_ 7 x19, C_ 10 (g37 + 1 + 1 + 1) (AG.mk x19 x30), (13, .mapo (g5 + 1) 2 (D1 y42)), E_ 20 a0.Pieces, I_ 21 a0.Pieces.len, I_ 22 x19, I_ 29 v25.Parts.len, I_ 30 x30] s ∧ s.low = low ∧ NoB BI s) l44 ?_ ⟨r, hl, hf⟩ ?_
     ·rintro ⟨x40, x41⟩ s out ⟨r, hl, hf⟩ k7
      dsimp only at r
      simp only [ED] at k7
      refine Ra hl hf ?_
      rintro g45 s r hl hf
      refine Fg r.2.2.2.2.2.2.2.2.2.2.2.2.2.2.2.1 k7 (fun c46 k7 => ?_) fun c46 k7 => ?_
      ·refine blk <| Ra hl hf ?_
       rintro g47 s r hl hf
       obtain ⟨o53, q54, k8⟩ := bnk k7
       refine nE [C_ 2 g1 a0, (3, .box (g1 + 1) [.fn 39 [] [.ptr pja1s0c0 pta1s0c0 pga1s0c0 0]]), C_ 4 (g1 + 1 + 1) (AB.mk (BenchBook.mk (VoiceBook.mk (Sl.nil : (Sl AL)) 0 (Sl.nil : (Sl AI))) (Sl.nil : (Sl AK)) 0) (Mp.nil : (Mp 2 (Sl Int)))), (5, .box (g5 + 1 + 1 + 1 + 1 + 1 + 1) (AB.lc (AB.mk a0 (Mp.nil : (Mp 2 (Sl Int)))) low.length 13 (g5 + 1))), (6, .v (.fn 64 [.agg (AB.lc (AB.mk a0 (Mp.nil : (Mp 2 (Sl Int)))) low.length 13 (g5 + 1))] [])), I_ 7 x19, C_ 10 (g37 + 1 + 1 + 1) (AG.mk x19 x30), I_ 11 x41, (13, .mapo (g5 + 1) 2 (D1 x40)), E_ 20 a0.Pieces, I_ 21 a0.Pieces.len, I_ 22 x19, I_ 29 v25.Parts.len, I_ 30 x30, I_ 39 a0.Voice.Boys.len, I_ 40 x41, B_ 53 o53] hl hf ?_ ?_
       ·by_cases c49 : (Ea x41 a1s0c0x) = true
        ·rw [if_pos c49] at q54
         have e1 := oI q54
         have f48 : ∀ (e : Env) (c : Nat), (om zL).call 39 [.d (.int x41), .ptr pja1s0c0 pta1s0c0 pga1s0c0 0] (low ++ [⟨e, none⟩]) c = some (.d (.bool ((Ea x41 a1s0c0x))), low ++ [⟨e, none⟩], TU zL 39 [.d (.int x41), .ptr pja1s0c0 pta1s0c0 pga1s0c0 0] (low ++ [⟨e, none⟩]) c) := fun e c => LW.om (KI x41 a1s0c0x (Ha ba1s0c0)) c
         simp only [rs, ps, Br, He, Iw, Dc, hl, nob hf, r, f48, c49, ← e1, reduceCtorEq, Nat.reduceEqDiff, Nat.reduceAdd]
        rw [if_neg c49] at q54
        have c49 := eq_false_of_ne_true c49
        obtain ⟨v50, h51, q72⟩ := bnd q54
        have e1 := oI q72
        have f48 : ∀ (e : Env) (c : Nat), (om zL).call 39 [.d (.int x41), .ptr pja1s0c0 pta1s0c0 pga1s0c0 0] (low ++ [⟨e, none⟩]) c = some (.d (.bool ((Ea x41 a1s0c0x))), low ++ [⟨e, none⟩], TU zL 39 [.d (.int x41), .ptr pja1s0c0 pta1s0c0 pga1s0c0 0] (low ++ [⟨e, none⟩]) c) := fun e c => LW.om (KI x41 a1s0c0x (Ha ba1s0c0)) c
        have f52 : ∀ (e : Env) (c : Nat), (om zL).call 64 [.agg (AB.lc (AB.mk a0 (Mp.nil : (Mp 2 (Sl Int)))) low.length 13 (g5 + 1)), .d (Enc.enc (AG.mk x19 x30)), .d (.int x41)] (low ++ [⟨e, none⟩]) c = some (.d (.bool (v50)), low ++ [⟨e, none⟩], TU zL 64 [.agg (AB.lc (AB.mk a0 (Mp.nil : (Mp 2 (Sl Int)))) low.length 13 (g5 + 1)), .d (Enc.enc (AG.mk x19 x30)), .d (.int x41)] (low ++ [⟨e, none⟩]) c) := fun e c => LW.om (Je (by first | omega | (simp only [List.length_append, List.length_cons, List.length_nil]; omega)) h51) c
        simp only [rs, ps, Br, He, Iw, Dc, hl, nob hf, r, f48, c49, f52, ← e1, reduceCtorEq, Nat.reduceEqDiff, Nat.reduceAdd]
       rintro s r hl hf
       refine Fg r.2.2.2.2.2.2.2.2.2.2.2.2.2.2.2.2.1 k8 (fun c57 k8 => ?_) fun c57 k8 => ?_
       ·refine Ra hl hf ?_
        rintro g58 s r hl hf
        obtain rfl := oK k8
        exact ⟨rfl, r, hl, hf⟩
       obtain ⟨v59, h60, k9⟩ := bnk k8
       have q62 := @PR
       have q63 := @J1
       have q64 := @J4
       have q68 := Es (sz := 1) (x := (Nb (Sl.nil : (Sl Int)) x40 (Bc.key (AG.mk x19 x30)))) (y := (Sl.cold [x41] : Sl Int)) rfl rfl h60
       refine Ra hl hf ?_ (h := by intro c; simp only [(UX (n := 2) (AG.mk x19 x30) rfl (by decide)), (RU (LP := zL) (t := 13) (gm := g5 + 1) (key := (Bc.key (AG.mk x19 x30))) (es := x40) (z := (Sl.nil : (Sl Int))) (hz := rfl)), (cA (LP := zL) (a := (Nb (Sl.nil : (Sl Int)) x40 (Bc.key (AG.mk x19 x30)))) (y := .d (.int (HG x40 (Bc.key (AG.mk x19 x30)))))), (S8 (LP := zL) (x := Sl.lv (Sl.spent (Nb (Sl.nil : (Sl Int)) x40 (Bc.key (AG.mk x19 x30))))) (y := .int (HG x40 (Bc.key (AG.mk x19 x30))))), (TG (LP := zL) (t := 13) (gm := g5 + 1) (key := (Bc.key (AG.mk x19 x30))) (es := x40) (z := (Sl.nil : (Sl Int))) (a := v59)), rt, ps, nob hf, *, reduceCtorEq, Nat.reduceEqDiff, Nat.reduceAdd, Nat.reduceMul] <;> rfl)
       rintro g61 s r hl hf
       refine Ra hl hf ?_
       rintro g71 s r hl hf
       obtain rfl := oK k9
       exact ⟨rfl, r, hl, hf⟩
      obtain rfl := oK k7
      exact ⟨by decide, ⟨rfl, ⟨r.1, r.2.1, r.2.2.1, r.2.2.2.1, r.2.2.2.2.1, r.2.2.2.2.2.1, r.2.2.2.2.2.2.1, r.2.2.2.2.2.2.2.1, r.2.2.2.2.2.2.2.2.1, r.2.2.2.2.2.2.2.2.2.1, r.2.2.2.2.2.2.2.2.2.2.1, r.2.2.2.2.2.2.2.2.2.2.2.1, r.2.2.2.2.2.2.2.2.2.2.2.2.1, trivial⟩, hl, hf⟩⟩
     intro j s hq
     obtain ⟨y42, rfl⟩ : ∃ x, x = o43 := ⟨_, rfl⟩
     try dsimp only at k6 hq
     obtain ⟨rfl, r, hl, hf⟩ := hq
     refine Ra hl hf ?_
     rintro g73 s r hl hf
     obtain rfl := oK k6
     exact ⟨rfl, r, hl, hf⟩
    obtain rfl := oK k5
    exact ⟨by decide, ⟨rfl, ⟨r.1, r.2.1, r.2.2.1, r.2.2.2.1, r.2.2.2.2.1, r.2.2.2.2.2.2.1, r.2.2.2.2.2.2.2.1, r.2.2.2.2.2.2.2.2.1, r.2.2.2.2.2.2.2.2.2.1, trivial⟩, hl, hf⟩⟩
   intro j s hq
   obtain ⟨y31, rfl⟩ : ∃ x, x = o32 := ⟨_, rfl⟩
   try dsimp only at k4 hq
   obtain ⟨rfl, r, hl, hf⟩ := hq
   refine Ra hl hf ?_
   rintro g74 s r hl hf
   obtain rfl := oK k4
   exact ⟨rfl, r, hl, hf⟩
  obtain rfl := oK k2
  exact ⟨by decide, ⟨rfl, ⟨r.1, r.2.1, r.2.2.1, r.2.2.2.1, r.2.2.2.2.2.1, trivial⟩, hl, hf⟩⟩
 intro j s hq
 obtain ⟨y20, rfl⟩ : ∃ x, x = o21 := ⟨_, rfl⟩
 try dsimp only at k1 hq
 obtain ⟨rfl, r, hl, hf⟩ := hq
 have q76 := @GG
 have q77 := @IB
 have q78 := @D7
 refine Ra hl hf ?_
 rintro g75 s r hl hf
 cases oK k1
 exact ⟨Or.inr rfl, hl, AU (Lx (by rw [hl]; exact r.1) r.2.1)⟩
theorem Yg {a0 : Int} {a1 : (Sl Int)} {r : Int} (k0 : H9 a0 a1 = some r) : Fin zL 40 [.int a0, Enc.enc a1] (.int r) := by
 unfold H9 at k0; replace k0 := kq k0
 refine fnN NC b7 ?_
 rintro low s r hl hf
 refine Ra hl hf ?_
 rintro g1 s r hl hf
 refine Ra hl hf ?_
 rintro g2 s r hl hf
 refine blk ?_
 obtain ⟨o6, l7, k1⟩ := bnk k0
 refine BG (f := IX a1) (E := fun (x : Int × Int) s => Dn [I_ 0 x.1, E_ 7 a1, I_ 8 a1.len, I_ 9 x.2] s ∧ s.low = low ∧ NoB NC s) (Q := fun (y5 : Int) j s => j = .exit 0 ∧ Dn [I_ 0 y5] s ∧ s.low = low ∧ NoB NC s) l7 ?_ ⟨r, hl, hf⟩ ?_
 ·rintro ⟨x3, x4⟩ s out ⟨r, hl, hf⟩ k2
  dsimp only at r
  simp only [IX] at k2
  refine Ra hl hf ?_
  rintro g8 s r hl hf
  refine Fg r.2.2.2.2.1 k2 (fun c9 k2 => ?_) fun c9 k2 => ?_
  ·refine blk ?_
   obtain ⟨v10, h11, k3⟩ := bnk k2
   refine Ra hl hf ?_
   rintro g12 s r hl hf
   have q14 := @dV
   refine Ra hl hf ?_
   rintro g13 s r hl hf
   refine Ra hl hf ?_
   rintro g15 s r hl hf
   obtain rfl := oK k3
   exact ⟨rfl, r, hl, hf⟩
  obtain rfl := oK k2
  exact ⟨by decide, ⟨rfl, ⟨r.1, trivial⟩, hl, hf⟩⟩
 intro j s hq
 obtain ⟨y5, rfl⟩ : ∃ x, x = o6 := ⟨_, rfl⟩
 try dsimp only at k1 hq
 obtain ⟨rfl, r, hl, hf⟩ := hq
 refine Ra hl hf ?_
 rintro g16 s r hl hf
 cases oK k1
 exact ⟨Or.inr rfl, hl, AU (AO r.1)⟩
def cC := fun a0 a1 => Cq.mk (@Yg a0 a1)
theorem bj {a0 : BenchBook} {r : ((Sl Int) × Int)} (k0 : F6 a0 = some r) : Fin zL 17 [Enc.enc a0] (Enc.enc r) := by
 unfold F6 at k0; replace k0 := kq k0
 refine fnN Oa fb ?_
 rintro low s r hl hf
 have q49 := @GR
 have q50 := @Jc
 have q51 := @cC
 refine Ra hl hf ?_
 rintro g1 s r hl hf
 obtain ⟨v2, h3, k1⟩ := bnk k0
 refine Ra hl hf ?_
 rintro g4 s r hl hf
 refine Ra hl hf ?_
 rintro g5 s r hl hf
 refine RG r.2.2.2.1 k1 (fun c6 k1 => ?_) fun c6 k1 => ?_
 ·obtain ⟨v7, h8, k2⟩ := bnk k1
  refine Ra hl hf ?_
  rintro g9 s r hl hf
  refine Ra hl hf ?_
  rintro g10 s r hl hf
  refine Ra hl hf ?_
  rintro g11 s r hl hf
  refine blk ?_
  obtain ⟨o15, l16, k3⟩ := bnk k2
  refine BG (f := EF a0 v7) (E := fun (x : (Sl Int) × Int) s => Dn [C_ 1 g1 a0, E_ 6 v7.1, (8, .v (Sl.lv x.1)), I_ 28 a0.Voice.Boys.len, I_ 29 x.2] s ∧ s.low = low ∧ NoB Oa s) (Q := fun (y14 : (Sl Int)) j s => j = .exit 0 ∧ Dn [C_ 1 g1 a0, (8, .v (Sl.lv y14))] s ∧ s.low = low ∧ NoB Oa s) l16 ?_ ⟨r, hl, hf⟩ ?_
  ·rintro ⟨x12, x13⟩ s out ⟨r, hl, hf⟩ k4
   dsimp only at r
   simp only [EF] at k4
   refine Ra hl hf ?_
   rintro g17 s r hl hf
   refine Fg r.2.2.2.2.2.1 k4 (fun c18 k4 => ?_) fun c18 k4 => ?_
   ·refine blk <| Ra hl hf ?_
    rintro g19 s r hl hf
    obtain ⟨v20, h21, k5⟩ := bnk k4
    obtain ⟨v24, h25, k6⟩ := bnk k5
    have q27 := @sS
    have q28 := @ri
    have q29 := @sh
    have q30 := @nS
    have f22 : ∀ (e : Env) (c : Nat) (z0 : Env.get 9 e = some (.box (g19 + 1) [.d (.int x13)])), (om zL).call 38 [.d (Enc.enc a0), .agg [.fn 39 [] [.ptr low.length 9 (g19 + 1) 0]]] (low ++ [⟨e, none⟩]) c = some (.d (Enc.enc (v20)), low ++ [⟨e, none⟩], TU zL 38 [.d (Enc.enc a0), .agg [.fn 39 [] [.ptr low.length 9 (g19 + 1) 0]]] (low ++ [⟨e, none⟩]) c) := fun e c z0 => LW.om (SR (SB z0) h21) c
    have q31 := @f22
    obtain ⟨c23, hc23⟩ := Il (LP := zL) (ds := [Enc.enc v20]) (I9 h25); simp only [List.map_cons, List.map_nil] at hc23
    have q32 := @hc23
    refine Ra hl hf ?_
    rintro g26 s r hl hf
    obtain ⟨v33, h34, k7⟩ := bnk k6
    refine Ra hl hf ?_
    rintro g35 s r hl hf
    refine Fg r.2.2.2.2.2.2.1 k7 (fun c36 k7 => ?_) fun c36 k7 => ?_
    ·obtain ⟨v37, h38, k8⟩ := bnk k7
     have q40 := Es (sz := 1) (x := x12) (y := (Sl.cold [x13] : Sl Int)) rfl rfl h38
     refine Ra hl hf ?_
     rintro g39 s r hl hf
     refine Ra hl hf ?_
     rintro g41 s r hl hf
     obtain rfl := oK k8
     exact ⟨rfl, r, hl, hf⟩
    refine Ra hl hf ?_
    rintro g42 s r hl hf
    obtain rfl := oK k7
    exact ⟨rfl, r, hl, hf⟩
   obtain rfl := oK k4
   exact ⟨by decide, ⟨rfl, ⟨r.1, r.2.2.1, trivial⟩, hl, hf⟩⟩
  intro j s hq
  obtain ⟨y14, rfl⟩ : ∃ x, x = o15 := ⟨_, rfl⟩
  try dsimp only at k3 hq
  obtain ⟨rfl, r, hl, hf⟩ := hq
  obtain ⟨v43, h44, k9⟩ := bnk k3
  have q46 := @oj
  have q47 := OY (sz := 1) rfl h44
  refine Ra hl hf ?_
  rintro g45 s r hl hf
  cases oK k9
  exact ⟨Or.inr rfl, hl, Bn (j9 r.1) (AO r.2.1)⟩
 refine Ra hl hf ?_
 rintro g48 s r hl hf
 cases oK k1
 exact ⟨Or.inr rfl, hl, Bn (AO r.1) (AO r.2.1)⟩
def Uf := fun a0 => Cq.mk (@bj a0)
theorem bn {a0 : BenchBook} {r : (Int × Int)} (k0 : GE a0 = some r) : Fin zL 13 [Enc.enc a0] (Enc.enc r) := by
 unfold GE at k0; replace k0 := kq k0
 refine fnN KT eK ?_
 rintro low s ⟨r0, -⟩ hl hf
 have q22 := @GR
 have q23 := @FZ
 refine Ra hl hf ?_
 rintro g1 s ⟨r1, r2, r3, -⟩ hl hf
 obtain ⟨v2, h3, k1⟩ := bnk k0
 refine Ra hl hf ?_
 rintro g4 s ⟨r2, r3, r4, r5, -⟩ hl hf
 refine Ra hl hf ?_
 rintro g5 s ⟨r2, r3, r4, r5, r13, -⟩ hl hf
 refine RG r13 k1 (fun c6 k1 => ?_) fun c6 k1 => ?_
 ·refine Ra hl hf ?_
  rintro g7 s ⟨r2, r3, r4, r6, -⟩ hl hf
  obtain ⟨v8, h9, k2⟩ := bnk k1
  obtain ⟨v10, h11, k3⟩ := bnk k2
  have q13 := Fin.call (LP := zL) (ds := [Enc.enc v2.1, .nils]) (FW h9)
  have q14 := Fin.call (LP := zL) (ds := [Enc.enc v2.1, Enc.enc v10]) (fun low => LY (low := low) v2.1 v10)
  refine Ra hl hf ?_
  rintro g12 s ⟨r2, r3, r6, r20, -⟩ hl hf
  refine blk ?_
  obtain ⟨⟨_, o17⟩, l18, k5⟩ := bnk k3
  refine Run.rng (B := KT) (base := low) (n := 53) (a := []) (b := [.d (.fptr (Enc.cells v2.1) 0), .d (.fptr [Enc.enc v10] 0)]) (jm := fun (_ : Unit) => Jmp.ret) (l := fun (o : (Int) ⊕ (Unit)) => match o with | .inl x16 => [(2, .v (.d (.int 0))), (3, .v (.d (.int 0))), (6, .box g7 [.d (.int x16)]), (20, .v (.d (.fn 53 [] [.fptr (Enc.cells v2.1) 0, .fptr [Enc.enc v10] 0])))] | .inr _ => []) (t0 := 0) (st' := o17) (v := .d (.tup [])) hl hf (by simp only [Qh, KY, G7, r20, Jw, QK, XJ, dn, List.map_cons, List.map_nil]) ⟨r2, r3, r6, r20, trivial⟩ ?_ ?_
  ·intro g low1 hc
   refine Ht (R := sf KT low g [21] _ _ (fun (_ : Unit) => Jmp.ret) (fun (o : (Int) ⊕ (Unit)) => match o with | .inl x16 => [(2, .v (.d (.int 0))), (3, .v (.d (.int 0))), (6, .box g7 [.d (.int x16)]), (20, .v (.d (.fn 53 [] [.fptr (Enc.cells v2.1) 0, .fptr [Enc.enc v10] 0])))] | .inr _ => [])) (fun st l h => db st l h) ?_  hc l18
   refine Kv (by decide) (fun _ => rfl) ?_
   rintro a15 x16 out k4 e above low0 lw lp s hr ha hr0 hBB hl hf
   obtain ⟨e2, e3, e6, e20, -⟩ := hr0
   have r2 : s.raw 2 = some (.v (.d (.int 0))) := hr 2 _ rfl e2
   have r3 : s.raw 3 = some (.v (.d (.int 0))) := hr 3 _ rfl e3
   have r6 : s.raw 6 = some (.v (.ptr low.length 6 g7 0)) := hr 6 _ rfl e6
   have r20 : s.raw 20 = some (.v (.d (.fn 53 [] [.fptr (Enc.cells v2.1) 0, .fptr [Enc.enc v10] 0]))) := hr 20 _ rfl e20
   obtain ⟨r21, -⟩ := ha
   unfold GH at k4
   replace k4 := kq k4
   refine Nx.run <| ⟨rfl, hl, ?_⟩
   intro s2 hraw hl
   replace r2 := (hraw 2).trans r2
   replace r3 := (hraw 3).trans r3
   replace r6 := (hraw 6).trans r6
   replace r20 := (hraw 20).trans r20
   replace r21 := (hraw 21).trans r21
   replace hf := NoB.congr hf hraw
   clear hraw
   obtain ⟨s, hs⟩ : ∃ q, q = s2 := ⟨_, rfl⟩
   rw [← hs] at r2 r3 r6 r20 r21 hl hf
   rw [← hs]
   clear hs s2
   have hB := hBB
   obtain ⟨m2, m3, m6, m20, -⟩ := KA.all hB
   have hlt : low.length < lw.length := by have := KA.len hB; omega
   refine Nx.run <| blk <| regS (B := KT) (low := lw) (Q := fun q => q = (Du lw low.length 6 (.box g7 [.d (.int (W (x16 + 1)))]))) [] hl hf ?_ ?_
   ·simp only [rs, LL, JS, IE, PU, PK, LD, hl, nob hf, r2, r3, r6, r20, r21, m2, m3, m6, m20, hlt, (YK (v := .int (W (x16 + 1)))), reduceCtorEq, Nat.reduceEqDiff, Nat.reduceAdd]
   rintro s - hl hf
   replace hl : s.low = (Du lw low.length 6 (.box g7 [.d (.int (W (x16 + 1)))])) := hl
   replace hB := KA.set (l' := [(2, .v (.d (.int 0))), (3, .v (.d (.int 0))), (6, .box g7 [.d (.int (W (x16 + 1)))]), (20, .v (.d (.fn 53 [] [.fptr (Enc.cells v2.1) 0, .fptr [Enc.enc v10] 0])))]) hB 6 _ rfl (fun s ⟨q2, q3, q6, q20, _⟩ => ⟨(by rw [An, if_neg (by decide)]; exact q2), (by rw [An, if_neg (by decide)]; exact q3), (by rw [An, if_pos rfl]), (by rw [An, if_neg (by decide)]; exact q20), trivial⟩)
   obtain ⟨lw, hlow⟩ : ∃ q, q = (Du lw low.length 6 (.box g7 [.d (.int (W (x16 + 1)))])) := ⟨_, rfl⟩
   rw [← hlow] at hl hB
   obtain ⟨m2, m3, m6, m20, -⟩ := KA.all hB
   have hlt : low.length < lw.length := by have := KA.len hB; omega
   obtain rfl := oK k4
   exact ⟨rfl, rfl, by rw [hl]; exact WL hB (fun s ⟨q2, q3, q6, q20, _⟩ => ⟨q2, q3, q6, q20, trivial⟩)⟩
  ·intro s hl hf hq
   rcases o17 with y19 | _
   ·try dsimp only at k5 hq
    obtain ⟨r2, r3, r6, r20, -⟩ := hq
    refine sX <| Ra hl hf ?_
    rintro g20 s ⟨r2, r3, -⟩ hl hf
    cases oK k5
    exact ⟨Or.inr rfl, hl, Bn (AO r2) (AO r3)⟩
   ·cases k5
 refine Ra hl hf ?_
 rintro g21 s ⟨r2, r3, -⟩ hl hf
 cases oK k1
 exact ⟨Or.inr rfl, hl, Bn (AO r2) (AO r3)⟩
def Ur := fun a0 => Cq.mk (@bn a0)
end Go.Lf
