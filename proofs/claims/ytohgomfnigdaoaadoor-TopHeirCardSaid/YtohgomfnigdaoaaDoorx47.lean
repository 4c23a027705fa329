/- A part of the proof. -/
import Derived.Test.YtohgomfnigdaoaaDoorx20
import Derived.Test.YtohgomfnigdaoaaDoorx22
import Derived.Test.YtohgomfnigdaoaaDoorx46
set_option linter.all false
set_option maxHeartbeats 9999999
namespace Go.Lf
open Go
theorem LN {low : List Fr} (a0 : AB) (a1 : (Sl AD)) : LD zL 30 [.d (yA.enc a0), .d (yA.enc a1)] low (.d (.fn 53 [] [.fptr (yA.cells a0) 0, .fptr [yA.enc a1] 0])) := by
 refine jG U5 U4 ?_
 rintro s r hl hf
 refine Ra hl hf ?_
 rintro g1 s r hl hf
 refine Ra hl hf ?_
 rintro g2 s r hl hf
 exact ⟨Or.inr rfl, hl, pM (by simp only [eP, r, Gp, Jo, QY, hl]; simp only [vI, wH, sT, sR, Zp, fE, ke, kt, eJ, aL, al, SS, RA, RX, Vh, kZ, O4, aN, Rj, Option.map_some, Option.map_none, AA.lc, AB.lc, ge (show xl.get 2 s.env = _ from r.1), ge (show xl.get 3 s.env = _ from r.2.1)])⟩
theorem Iz : Fin zL 57 [] (yA.enc (Bm)) := by
 refine yR ee eK ?_
 rintro low s - hl hf
 have q2 := @Wu
 refine Ra hl hf ?_
 rintro g1 s r hl hf
 have q4 := @Wu
 refine Ra hl hf ?_
 rintro g3 s r hl hf
 refine Ra hl hf ?_
 rintro g5 s r hl hf
 exact ⟨Or.inr rfl, hl, AQ (D7 r.1 rfl)⟩
def eA := Iz.call
theorem I5 {low : List Fr} (a0 : AC) (a1x : AD) (a2x : Int) {pja1 : Nat} {pta1 : Nat} {pga1 : Nat} {pja2 : Nat} {pta2 : Nat} {pga2 : Nat} (ba1 : IQ low pja1 pta1 = some (.box pga1 ((yA.cells a1x).map LV.d))) (ba2 : IQ low pja2 pta2 = some (.box pga2 [.d (.int a2x)])) : LD zL 56 [.d (yA.enc a0), .ptr pja1 pta1 pga1 0, .ptr pja2 pta2 pga2 0] low (.d (.bool (Cd a0 a1x a2x))) := by
 refine jG KP KX ?_
 rintro s r hl hf
 refine Ra hl hf ?_
 rintro g1 s r hl hf
 have q5 := Ea ba1
 have q6 := Ea ba2
 refine Rx (fun g4 => [B_ 4 ((decide (a0.Piece = a1x.at_.piece)) && (decide (a0.Boy = a2x)))]) hl hf ?_
 rintro g4 s r hl hf
 exact ⟨Or.inr rfl, hl, AQ (AN r.1)⟩
theorem OS {low : List Fr} {a0 : (Sl AC)} {a1c0x : AD} {a1c1x : Int} {pja1c0 : Nat} {pta1c0 : Nat} {pga1c0 : Nat} {pja1c1 : Nat} {pta1c1 : Nat} {pga1c1 : Nat} (ba1c0 : IQ low pja1c0 pta1c0 = some (.box pga1c0 ((yA.cells a1c0x).map LV.d))) (ba1c1 : IQ low pja1c1 pta1c1 = some (.box pga1c1 [.d (.int a1c1x)])) {r : Int} (k0 : C6 a0 a1c0x a1c1x = some r) : LD zL 72 [.d (yA.enc a0), .fn 56 [] [.ptr pja1c0 pta1c0 pga1c0 0, .ptr pja1c1 pta1c1 pga1c1 0]] low (.d (.int r)) := by
 unfold C6 at k0; replace k0 := kq k0
 refine jG HT KA ?_
 rintro s r hl hf
 refine Ra hl hf ?_
 rintro g1 s r hl hf
 refine Ra hl hf ?_
 rintro g2 s r hl hf
 refine ye ?_
 obtain ⟨o5, l6, k1⟩ := yK k0
 refine A8 (f := A3 a0 a1c0x a1c1x) (E := fun (x : Int) s => Dc [E_ 0 a0, (1, .v (.fn 56 [] [.ptr pja1c0 pta1c0 pga1c0 0, .ptr pja1c1 pta1c1 pga1c1 0])), I_ 7 a0.len, I_ 8 x] s ∧ s.low = low ∧ yT HT s) (Q := fun (o : ((Int) ⊕ (Unit))) j s => match o with | .inl w4 => j = .ret ∧ yH KA.1 low (.d (.int w4)) .ret s | .inr _ => j = .exit 0 ∧ Dc [] s ∧ s.low = low ∧ yT HT s) l6 ?_ ⟨r, hl, hf⟩ ?_
 ·rintro x3 s out ⟨r, hl, hf⟩ k2
  unfold A3 at k2
  refine Ra hl hf ?_
  rintro g7 s r hl hf
  refine FI r.2.2.2.2.1 k2 (fun c8 k2 => ?_) fun c8 k2 => ?_
  ·refine ye <| Ra hl hf ?_
   rintro g9 s r hl hf
   obtain ⟨v10, h11, k3⟩ := yK k2
   have f12 : ∀ (e : xl) (c : Nat), (om zL).call 56 [.d (yA.enc v10), .ptr pja1c0 pta1c0 pga1c0 0, .ptr pja1c1 pta1c1 pga1c1 0] (low ++ [⟨e, none⟩]) c = some (.d (.bool ((Cd v10 a1c0x a1c1x))), low ++ [⟨e, none⟩], UA zL 56 [.d (yA.enc v10), .ptr pja1c0 pta1c0 pga1c0 0, .ptr pja1c1 pta1c1 pga1c1 0] (low ++ [⟨e, none⟩]) c) := fun e c => LD.om (I5 v10 a1c0x a1c1x (HD ba1c0) (HD ba1c1)) c
   have q14 := @f12
   refine Ra hl hf ?_
   rintro g13 s r hl hf
   refine FI r.2.2.2.2.2.1 k3 (fun c15 k3 => ?_) fun c15 k3 => ?_
   ·refine Ra hl hf ?_
    rintro g16 s r hl hf
    obtain rfl := oK k3
    exact ⟨by decide, ⟨rfl, ⟨Or.inr rfl, hl, AQ (AN r.1)⟩⟩⟩
   refine Ra hl hf ?_
   rintro g17 s r hl hf
   obtain rfl := oK k3
   exact ⟨rfl, r, hl, hf⟩
  obtain rfl := oK k2
  exact ⟨by decide, ⟨rfl, trivial, hl, hf⟩⟩
 intro j s hq
 rcases o5 with w4 | _
 ·try dsimp only at k1 hq
  obtain ⟨rfl, hq⟩ := hq
  cases oK k1
  exact hq
 try dsimp only at k1 hq
 obtain ⟨rfl, -, hl, hf⟩ := hq
 refine Ra hl hf ?_
 rintro g18 s r hl hf
 cases oK k1
 exact ⟨Or.inr rfl, hl, AQ (AN r.1)⟩
theorem ES {low : List Fr} {a0 : (Sl AC)} {a1c0x : AD} {a1c1x : Int} {pja1c0 : Nat} {pta1c0 : Nat} {pga1c0 : Nat} {pja1c1 : Nat} {pta1c1 : Nat} {pga1c1 : Nat} (ba1c0 : IQ low pja1c0 pta1c0 = some (.box pga1c0 ((yA.cells a1c0x).map LV.d))) (ba1c1 : IQ low pja1c1 pta1c1 = some (.box pga1c1 [.d (.int a1c1x)])) {r : Bool} (k0 : BF a0 a1c0x a1c1x = some r) : LD zL 55 [.d (yA.enc a0), .fn 56 [] [.ptr pja1c0 pta1c0 pga1c0 0, .ptr pja1c1 pta1c1 pga1c1 0]] low (.d (.bool r)) := by
 unfold BF at k0; replace k0 := kq k0
 refine jG OB N8 ?_
 rintro s r hl hf
 refine Ra hl hf ?_
 rintro g1 s r hl hf
 obtain ⟨v2, h3, k1⟩ := yK k0
 have f4 : ∀ (e : xl) (c : Nat), (om zL).call 72 [.d (yA.enc a0), .fn 56 [] [.ptr pja1c0 pta1c0 pga1c0 0, .ptr pja1c1 pta1c1 pga1c1 0]] (low ++ [⟨e, none⟩]) c = some (.d (.int (v2)), low ++ [⟨e, none⟩], UA zL 72 [.d (yA.enc a0), .fn 56 [] [.ptr pja1c0 pta1c0 pga1c0 0, .ptr pja1c1 pta1c1 pga1c1 0]] (low ++ [⟨e, none⟩]) c) := fun e c => LD.om (OS (HD ba1c0) (HD ba1c1) h3) c
 have q6 := @f4
 refine Ra hl hf ?_
 rintro g5 s r hl hf
 cases oK k1
 exact ⟨Or.inr rfl, hl, AQ (AN r.1)⟩
theorem KE {σ : Type} {yf : (Sl AC) → σ → Option (Bool × σ)} (n : Nat) : ∀ (R : σ → List Fr → Prop) (N : Nat), (∀ s low, R s low → low.length = N) → ∀ (yj yg : Nat), II zL R yj yg (fun (x : (Sl AC)) => [.d (yA.enc x)]) yf → ∀ (a0 : (Sl AC)) (a1 : (Sl AD)) (a2 : (Ar 24 Int)) (a5 : AB) (pja3 : Nat) (pta3 : Nat) (pga3 : Nat) (pja4 : Nat) (pta4 : Nat) (pga4 : Nat), (∀ st low, R st low → IQ low pja3 pta3 = some (.box pga3 [.yield yj yg])) → (∀ st low, R st low → IQ low pja4 pta4 = some (.box pga4 [.fn 54 [] [.ptr pja3 pta3 pga3 0, .ptr pja4 pta4 pga4 0, .d (.fptr (yA.cells a5) 0)]])) → ∀ (low : List Fr) (st : σ), R st low → ∀ r : Bool × σ, AU yf n a0 a1 a2 a5 st = some r → kM zL 54 [.d (yA.enc a0), .d (yA.enc a1), .d (yA.enc a2), .ptr pja3 pta3 pga3 0, .ptr pja4 pta4 pga4 0, .d (.fptr (yA.cells a5) 0)] R low (.d (.bool r.1)) r.2 := by
 induction n with
 | zero => intro R N hN yj yg hy a0 a1 a2 a5 pja3 pta3 pga3 pja4 pta4 pga4 ba3S ba4S low st hR r k0; simp [AU] at k0
 | succ n ih =>
  intro R N hN yj yg hy a0 a1 a2 a5 pja3 pta3 pga3 pja4 pta4 pga4 ba3S ba4S low st hR r k0
  simp only [AU] at k0; replace k0 := kq k0
  refine vt Bn Ha ?_
  rintro s r hl hf
  have q80 := @eA
  have hlN : low.length = N := hN _ _ hR
  have ba3 := ba3S _ _ hR
  have ba4 := ba4S _ _ hR
  refine Ra hl hf ?_
  rintro g1 s r hl hf
  refine Ra hl hf ?_
  rintro g2 s r hl hf
  refine FI r.2.2.2.2.2.2.1 k0 (fun c3 k0 => ?_) fun c3 k0 => ?_
  ·obtain ⟨⟨v4, t5⟩, h6, k1⟩ := yK k0
   dsimp only at k1
   refine regS (B := Bn) (low := low) (Q := R t5) [B_ 9 v4] hl hf ?_ ?_
   ·have f7 : ∀ (fr : Fr) (c : Nat), (om zL).round yj yg [.d (yA.enc a0)] (low ++ [fr]) c = some (v4, pZ zL yj yg [.d (yA.enc a0)] (low ++ [fr]) c ++ [fr], u0 zL yj yg [.d (yA.enc a0)] (low ++ [fr]) c) ∧ R t5 (pZ zL yj yg [.d (yA.enc a0)] (low ++ [fr]) c) ∧ (pZ zL yj yg [.d (yA.enc a0)] (low ++ [fr]) c).length = low.length := fun fr c => hy.om hN hR h6 fr c
    simp only [rs, j6, DR, hl, yO hf, hlN, r, (Ea ba3), (fun fr c => (f7 fr c).1), (fun fr c => (f7 fr c).2.1), (fun fr c => (f7 fr c).2.2), reduceCtorEq, Nat.reduceEqDiff, Nat.reduceAdd]
   rintro s r hR0 hf
   obtain ⟨low, hl⟩ : ∃ l, s.low = l := ⟨_, rfl⟩
   rw [hl] at hR0
   have hR := hR0
   have hlN : low.length = N := hN _ _ hR
   have ba3 := ba3S _ _ hR
   have ba4 := ba4S _ _ hR
   cases oK k1
   exact ⟨Or.inr rfl, (by rw [hl]; exact hR), AQ (AN r.1)⟩
  obtain ⟨v8, h9, k2⟩ := yK k0
  refine Ra hl hf ?_
  rintro g10 s r hl hf
  refine FI r.2.2.2.2.2.1 k2 (fun c11 k2 => ?_) fun c11 k2 => ?_
  ·obtain ⟨v12, h13, k3⟩ := yK k2
   obtain ⟨⟨v14, t15⟩, h16, k4⟩ := yK k3
   dsimp only at k4
   refine regS (B := Bn) (low := low) (Q := R t15) [B_ 9 v14] hl hf ?_ ?_
   ·have f17 : ∀ (e : xl) (c : Nat), (om zL).call 54 [.d (yA.enc a0), .d (yA.enc v12), .d (yA.enc a2), .ptr pja3 pta3 pga3 0, .ptr pja4 pta4 pga4 0, .d (.fptr (yA.cells a5) 0)] (low ++ [⟨e, none⟩]) c = some (.d (.bool v14), Zk zL 54 [.d (yA.enc a0), .d (yA.enc v12), .d (yA.enc a2), .ptr pja3 pta3 pga3 0, .ptr pja4 pta4 pga4 0, .d (.fptr (yA.cells a5) 0)] (low ++ [⟨e, none⟩]) c ++ [⟨e, none⟩], UA zL 54 [.d (yA.enc a0), .d (yA.enc v12), .d (yA.enc a2), .ptr pja3 pta3 pga3 0, .ptr pja4 pta4 pga4 0, .d (.fptr (yA.cells a5) 0)] (low ++ [⟨e, none⟩]) c) ∧ R t15 (Zk zL 54 [.d (yA.enc a0), .d (yA.enc v12), .d (yA.enc a2), .ptr pja3 pta3 pga3 0, .ptr pja4 pta4 pga4 0, .d (.fptr (yA.cells a5) 0)] (low ++ [⟨e, none⟩]) c) ∧ (Zk zL 54 [.d (yA.enc a0), .d (yA.enc v12), .d (yA.enc a2), .ptr pja3 pta3 pga3 0, .ptr pja4 pta4 pga4 0, .d (.fptr (yA.cells a5) 0)] (low ++ [⟨e, none⟩]) c).length = low.length := fun e c => kM.om hN hR (ih (pu R ⟨e, none⟩) (N + 1) (RB hN _) yj yg (hy.push _) a0 v12 a2 a5 _ _ _ _ _ _ (Gv ba3S _) (Gv ba4S _) _ _ ⟨low, rfl, hR⟩ _ h16) c
    simp only [rs, ps, HF, Ih, DR, hl, yO hf, hlN, r, (Ea ba4), (kQ (sz := 4) rfl h13), (fun e c => (f17 e c).1), (fun e c => (f17 e c).2.1), (fun e c => (f17 e c).2.2), reduceCtorEq, Nat.reduceEqDiff, Nat.reduceAdd]
   rintro s r hR0 hf
   obtain ⟨low, hl⟩ : ∃ l, s.low = l := ⟨_, rfl⟩
   rw [hl] at hR0
   have hR := hR0
   have hlN : low.length = N := hN _ _ hR
   have ba3 := ba3S _ _ hR
   have ba4 := ba4S _ _ hR
   cases oK k4
   exact ⟨Or.inr rfl, (by rw [hl]; exact hR), AQ (AN r.1)⟩
  obtain ⟨v18, h19, k5⟩ := yK k2
  try clear h9
  refine Ra hl hf ?_
  rintro g20 s r hl hf
  have q22 := fun s ro => cx (n := 2) s ro a5.able v18.at_ (Sl.nil : (Sl Int)) (.nils) rfl (by decide) rfl
  refine Ra hl hf ?_
  rintro g21 s r hl hf
  refine Ra hl hf ?_
  rintro g23 s r hl hf
  refine ye ?_
  obtain ⟨o28, l29, k6⟩ := yK k5
  refine A8 (f := Ag (AU yf n) a0 a1 a2 a5 v18) (E := fun (x : σ × Int) s => Dc [E_ 0 a0, E_ 1 a1, (4, .v (.ptr pja4 pta4 pga4 0)), (5, .v (.d (.fptr (yA.cells a5) 0))), C_ 8 g1 a2, C_ 10 (g20 + 1 + 1 + 1 + 1 + 1) v18, I_ 11 a0.len, E_ 12 ((Mp.get a5.able (BU.key v18.at_)).getD (Sl.nil : (Sl Int))), I_ 13 x.2] s ∧ R x.1 s.low ∧ yT Bn s) (Q := fun (o : ((Bool × σ) ⊕ (σ))) j s => match o with | .inl w26 => j = .ret ∧ vf Ha.1 R w26.2 (.d (.bool w26.1)) .ret s | .inr y27 => j = .exit 0 ∧ Dc [C_ 8 g1 a2, C_ 10 (g20 + 1 + 1 + 1 + 1 + 1) v18] s ∧ R y27 s.low ∧ yT Bn s) l29 ?_ ⟨r, (by rw [hl]; exact hR), hf⟩ ?_
  ·rintro ⟨x24, x25⟩ s out ⟨r, hR0, hf⟩ k7
   dsimp only at hR0 r
   obtain ⟨low, hl⟩ : ∃ l, s.low = l := ⟨_, rfl⟩
   rw [hl] at hR0
   have hR := hR0
   have hlN : low.length = N := hN _ _ hR
   have ba3 := ba3S _ _ hR
   have ba4 := ba4S _ _ hR
   simp only [Ag] at k7
   refine Ra hl hf ?_
   rintro g30 s r hl hf
   refine FI r.2.2.2.2.2.2.2.2.2.1 k7 (fun c31 k7 => ?_) fun c31 k7 => ?_
   ·refine ye ?_
    obtain ⟨v32, h33, k8⟩ := yK k7
    refine Ra hl hf ?_
    rintro g34 s r hl hf
    obtain ⟨v35, h36, k9⟩ := yK k8
    refine Ra hl hf ?_
    rintro g37 s r hl hf
    obtain ⟨o45, q46, k11⟩ := yK k9
    refine mC [E_ 0 a0, E_ 1 a1, (4, .v (.ptr pja4 pta4 pga4 0)), (5, .v (.d (.fptr (yA.cells a5) 0))), C_ 8 g1 a2, C_ 10 (g20 + 1 + 1 + 1 + 1 + 1) v18, I_ 11 a0.len, E_ 12 ((Mp.get a5.able (BU.key v18.at_)).getD (Sl.nil : (Sl Int))), I_ 13 x25, N_ 14 (g34 + 1 + 1 + 1 + 1) v32, I_ 15 (W ((W (v35.Week * 4)) + v32)), B_ 85 o45] hl hf ?_ ?_
    ·obtain ⟨v38, h39, q77⟩ := ya q46
     by_cases c41 : v38 = true
     ·rw [if_pos c41] at q77
      have e1 := oI q77
      have f40 : ∀ (e : xl) (c : Nat) (z0 : xl.get 10 e = some (.box (g20 + 1 + 1 + 1 + 1 + 1) ((yA.cells v18).map LV.d))) (z1 : xl.get 14 e = some (.box (g34 + 1 + 1 + 1 + 1) [.d (.int v32)])), (om zL).call 55 [.d (yA.enc a0), .fn 56 [] [.ptr N 10 (g20 + 1 + 1 + 1 + 1 + 1) 0, .ptr N 14 (g34 + 1 + 1 + 1 + 1) 0]] (low ++ [⟨e, none⟩]) c = some (.d (.bool (v38)), low ++ [⟨e, none⟩], UA zL 55 [.d (yA.enc a0), .fn 56 [] [.ptr N 10 (g20 + 1 + 1 + 1 + 1 + 1) 0, .ptr N 14 (g34 + 1 + 1 + 1 + 1) 0]] (low ++ [⟨e, none⟩]) c) := fun e c z0 z1 => LD.om (ES (Kp hlN z0) (Kp hlN z1) h39) c
      simp only [rs, ps, JY, Ji, hl, yO hf, hlN, r, f40, c41, ← e1, reduceCtorEq, Nat.reduceEqDiff, Nat.reduceAdd]
     rw [if_neg c41] at q77
     have c41 := eq_false_of_ne_true c41
     by_cases c42 : (decide (BU.key a2 = BU.key Bm)) = true
     ·rw [if_pos c42] at q77
      have e1 := oI q77
      have f40 : ∀ (e : xl) (c : Nat) (z0 : xl.get 10 e = some (.box (g20 + 1 + 1 + 1 + 1 + 1) ((yA.cells v18).map LV.d))) (z1 : xl.get 14 e = some (.box (g34 + 1 + 1 + 1 + 1) [.d (.int v32)])), (om zL).call 55 [.d (yA.enc a0), .fn 56 [] [.ptr N 10 (g20 + 1 + 1 + 1 + 1 + 1) 0, .ptr N 14 (g34 + 1 + 1 + 1 + 1) 0]] (low ++ [⟨e, none⟩]) c = some (.d (.bool (v38)), low ++ [⟨e, none⟩], UA zL 55 [.d (yA.enc a0), .fn 56 [] [.ptr N 10 (g20 + 1 + 1 + 1 + 1 + 1) 0, .ptr N 14 (g34 + 1 + 1 + 1 + 1) 0]] (low ++ [⟨e, none⟩]) c) := fun e c z0 z1 => LD.om (ES (Kp hlN z0) (Kp hlN z1) h39) c
      simp only [rs, ps, JY, Ji, hl, yO hf, hlN, r, f40, c41, (Iz).call, c42, ← e1, reduceCtorEq, Nat.reduceEqDiff, Nat.reduceAdd]
     rw [if_neg c42] at q77
     have c42 := eq_false_of_ne_true c42
     obtain ⟨v43, h44, q78⟩ := ya q77
     have e1 := oI q78
     have f40 : ∀ (e : xl) (c : Nat) (z0 : xl.get 10 e = some (.box (g20 + 1 + 1 + 1 + 1 + 1) ((yA.cells v18).map LV.d))) (z1 : xl.get 14 e = some (.box (g34 + 1 + 1 + 1 + 1) [.d (.int v32)])), (om zL).call 55 [.d (yA.enc a0), .fn 56 [] [.ptr N 10 (g20 + 1 + 1 + 1 + 1 + 1) 0, .ptr N 14 (g34 + 1 + 1 + 1 + 1) 0]] (low ++ [⟨e, none⟩]) c = some (.d (.bool (v38)), low ++ [⟨e, none⟩], UA zL 55 [.d (yA.enc a0), .fn 56 [] [.ptr N 10 (g20 + 1 + 1 + 1 + 1 + 1) 0, .ptr N 14 (g34 + 1 + 1 + 1 + 1) 0]] (low ++ [⟨e, none⟩]) c) := fun e c z0 z1 => LD.om (ES (Kp hlN z0) (Kp hlN z1) h39) c
     simp only [rs, ps, JY, Ji, hl, yO hf, hlN, r, f40, c41, (Iz).call, c42, (EK h44), (CZ h44 rfl rfl), ← e1, reduceCtorEq, Nat.reduceEqDiff, Nat.reduceAdd]
    rintro s r hl hf
    refine FI r.2.2.2.2.2.2.2.2.2.2.2.1 k11 (fun c50 k11 => ?_) fun c50 k11 => ?_
    ·refine Ra hl hf ?_
     rintro g51 s r hl hf
     obtain rfl := oK k11
     exact ⟨rfl, r, (by rw [hl]; exact hR), hf⟩
    refine Ra hl hf ?_
    rintro g52 s r hl hf
    obtain ⟨v53, h54, k12⟩ := yK k11
    have q56 := EK h54
    have q57 := CZ h54 rfl rfl
    have q58 := sd h54
    refine Ra hl hf ?_
    rintro g55 s r hl hf
    obtain ⟨v59, h60, k13⟩ := yK k12
    try clear h13
    obtain ⟨v61, h62, k14⟩ := yK k13
    have q64 := kQ (sz := 4) rfl h60
    have q65 := Eb (sz := 4) (x := (Sl.hot [(AD.mk v18.at_ (W (v18.many - 1)) (W (x25 + 1)))] : Sl AD)) (y := v59) rfl rfl h62
    refine Ra hl hf ?_
    rintro g63 s r hl hf
    obtain ⟨v66, h67, k15⟩ := yK k14
    obtain ⟨v68, h69, k16⟩ := yK k15
    obtain ⟨⟨v70, t71⟩, h72, k17⟩ := yK k16
    dsimp only at k17
    refine regS (B := Bn) (low := low) (Q := R t71) [E_ 0 a0, E_ 1 a1, (4, .v (.ptr pja4 pta4 pga4 0)), (5, .v (.d (.fptr (yA.cells a5) 0))), C_ 8 g1 a2, C_ 10 (g20 + 1 + 1 + 1 + 1 + 1) v18, I_ 11 a0.len, E_ 12 ((Mp.get a5.able (BU.key v18.at_)).getD (Sl.nil : (Sl Int))), I_ 13 x25, B_ 122 (!v70)] hl hf ?_ ?_
    ·have f73 : ∀ (e : xl) (c : Nat), (om zL).call 54 [.d (yA.enc v68), .d (yA.enc v61), .d (yA.enc (a2.put (W ((W (v35.Week * 4)) + v32)) (W (v53 + 1)))), .ptr pja3 pta3 pga3 0, .ptr pja4 pta4 pga4 0, .d (.fptr (yA.cells a5) 0)] (low ++ [⟨e, none⟩]) c = some (.d (.bool v70), Zk zL 54 [.d (yA.enc v68), .d (yA.enc v61), .d (yA.enc (a2.put (W ((W (v35.Week * 4)) + v32)) (W (v53 + 1)))), .ptr pja3 pta3 pga3 0, .ptr pja4 pta4 pga4 0, .d (.fptr (yA.cells a5) 0)] (low ++ [⟨e, none⟩]) c ++ [⟨e, none⟩], UA zL 54 [.d (yA.enc v68), .d (yA.enc v61), .d (yA.enc (a2.put (W ((W (v35.Week * 4)) + v32)) (W (v53 + 1)))), .ptr pja3 pta3 pga3 0, .ptr pja4 pta4 pga4 0, .d (.fptr (yA.cells a5) 0)] (low ++ [⟨e, none⟩]) c) ∧ R t71 (Zk zL 54 [.d (yA.enc v68), .d (yA.enc v61), .d (yA.enc (a2.put (W ((W (v35.Week * 4)) + v32)) (W (v53 + 1)))), .ptr pja3 pta3 pga3 0, .ptr pja4 pta4 pga4 0, .d (.fptr (yA.cells a5) 0)] (low ++ [⟨e, none⟩]) c) ∧ (Zk zL 54 [.d (yA.enc v68), .d (yA.enc v61), .d (yA.enc (a2.put (W ((W (v35.Week * 4)) + v32)) (W (v53 + 1)))), .ptr pja3 pta3 pga3 0, .ptr pja4 pta4 pga4 0, .d (.fptr (yA.cells a5) 0)] (low ++ [⟨e, none⟩]) c).length = low.length := fun e c => kM.om hN hR (ih (pu R ⟨e, none⟩) (N + 1) (RB hN _) yj yg (hy.push _) v68 v61 (a2.put (W ((W (v35.Week * 4)) + v32)) (W (v53 + 1))) a5 _ _ _ _ _ _ (Gv ba3S _) (Gv ba4S _) _ _ ⟨low, rfl, hR⟩ _ h72) c
     simp only [rs, ps, PU, Q3, fe, HF, Ih, DR, hl, yO hf, hlN, r, (Ea ba4), (OO (sz := 3) rfl h67), (Eb (sz := 3) (x := v66) (y := (Sl.cold [(AC.mk v18.at_.piece v18.at_.part v32)] : Sl AC)) rfl rfl h69), (ql h62), (lC h69 (by simp)), (fun e c => (f73 e c).1), (fun e c => (f73 e c).2.1), (fun e c => (f73 e c).2.2), reduceCtorEq, Nat.reduceEqDiff, Nat.reduceAdd]
    rintro s r hR0 hf
    obtain ⟨low, hl⟩ : ∃ l, s.low = l := ⟨_, rfl⟩
    rw [hl] at hR0
    have hR := hR0
    have hlN : low.length = N := hN _ _ hR
    have ba3 := ba3S _ _ hR
    have ba4 := ba4S _ _ hR
    refine Qy r.2.2.2.2.2.2.2.2.2.1 k17 (fun c74 k17 => ?_) fun c74 k17 => ?_
    ·refine Ra hl hf ?_
     rintro g75 s r hl hf
     obtain rfl := oK k17
     exact ⟨rfl, r, (by rw [hl]; exact hR), hf⟩
    refine Ra hl hf ?_
    rintro g76 s r hl hf
    obtain rfl := oK k17
    exact ⟨by decide, ⟨rfl, ⟨Or.inr rfl, (by rw [hl]; exact hR), AQ (AN r.1)⟩⟩⟩
   obtain rfl := oK k7
   exact ⟨by decide, ⟨rfl, ⟨r.2.2.2.2.1, r.2.2.2.2.2.1, trivial⟩, (by rw [hl]; exact hR), hf⟩⟩
  intro j s hq
  rcases o28 with w26 | y27
  ·try dsimp only at k6 hq
   obtain ⟨rfl, hq⟩ := hq
   cases oK k6
   exact hq
  try dsimp only at k6 hq
  obtain ⟨rfl, r, hR0, hf⟩ := hq
  obtain ⟨low, hl⟩ : ∃ l, s.low = l := ⟨_, rfl⟩
  rw [hl] at hR0
  have hR := hR0
  have hlN : low.length = N := hN _ _ hR
  have ba3 := ba3S _ _ hR
  have ba4 := ba4S _ _ hR
  refine Ra hl hf ?_
  rintro g79 s r hl hf
  cases oK k6
  exact ⟨Or.inr rfl, (by rw [hl]; exact hR), AQ (AN r.1)⟩
theorem HY {σ : Type} {R : σ → List Fr → Prop} {N : Nat} (hN : ∀ s low, R s low → low.length = N) {yf : (Sl AC) → σ → Option (Bool × σ)} {yj yg : Nat} (hy : II zL R yj yg (fun (x : (Sl AC)) => [.d (yA.enc x)]) yf) {a1 : AB} {a2 : (Sl AD)} {low : List Fr} {st : σ} (hR : R st low) {r : Unit × σ} (k0 : BO yf a1 a2 st = some r) : kM zL 53 [.yield yj yg, .d (.fptr (yA.cells a1) 0), .d (.fptr [yA.enc a2] 0)] R low (.d (.tup [])) r.2 := by
 unfold BO at k0; replace k0 := kq k0
 refine vt JG QD ?_
 rintro s r hl hf
 have hlN : low.length = N := hN _ _ hR
 refine Ra hl hf ?_
 rintro g1 s r hl hf
 refine Ra hl hf ?_
 rintro g2 s r hl hf
 have q4 := @Of
 refine Ra hl hf ?_
 rintro g3 s r hl hf
 obtain ⟨⟨v5, t6⟩, h7, k1⟩ := yK k0
 dsimp only at k1
 refine regS (B := JG) (low := low) (Q := R t6) [] hl hf ?_ ?_
 ·have f8 : ∀ (e : xl) (c : Nat) (z0 : xl.get 3 e = some (.box g1 [.yield yj yg])) (z1 : xl.get 4 e = some (.box g2 [.fn 54 [] [.ptr N 3 g1 0, .ptr N 4 g2 0, .d (.fptr (yA.cells a1) 0)]])), (om zL).call 54 [.d .nils, .d (yA.enc a2), .d (yA.enc Bm), .ptr N 3 g1 0, .ptr N 4 g2 0, .d (.fptr (yA.cells a1) 0)] (low ++ [⟨e, none⟩]) c = some (.d (.bool v5), Zk zL 54 [.d .nils, .d (yA.enc a2), .d (yA.enc Bm), .ptr N 3 g1 0, .ptr N 4 g2 0, .d (.fptr (yA.cells a1) 0)] (low ++ [⟨e, none⟩]) c ++ [⟨e, none⟩], UA zL 54 [.d .nils, .d (yA.enc a2), .d (yA.enc Bm), .ptr N 3 g1 0, .ptr N 4 g2 0, .d (.fptr (yA.cells a1) 0)] (low ++ [⟨e, none⟩]) c) ∧ R t6 (Zk zL 54 [.d .nils, .d (yA.enc a2), .d (yA.enc Bm), .ptr N 3 g1 0, .ptr N 4 g2 0, .d (.fptr (yA.cells a1) 0)] (low ++ [⟨e, none⟩]) c) ∧ (Zk zL 54 [.d .nils, .d (yA.enc a2), .d (yA.enc Bm), .ptr N 3 g1 0, .ptr N 4 g2 0, .d (.fptr (yA.cells a1) 0)] (low ++ [⟨e, none⟩]) c).length = low.length := fun e c z0 z1 => kM.om hN hR (KE 64 (pu R ⟨e, none⟩) (N + 1) (RB hN _) yj yg (hy.push _) (Sl.nil : (Sl AC)) a2 Bm a1 _ _ _ _ _ _ (K3 hN z0) (K3 hN z1) _ _ ⟨low, rfl, hR⟩ _ h7) c
  simp only [rs, Bj, HF, Ih, DR, hl, yO hf, hlN, r, (Iz).call, (fun e c z0 z1 => (f8 e c z0 z1).1), (fun e c z0 z1 => (f8 e c z0 z1).2.1), (fun e c z0 z1 => (f8 e c z0 z1).2.2), reduceCtorEq, Nat.reduceEqDiff, Nat.reduceAdd]
 rintro s - hR0 hf
 obtain ⟨low, hl⟩ : ∃ l, s.low = l := ⟨_, rfl⟩
 rw [hl] at hR0
 have hR := hR0
 have hlN : low.length = N := hN _ _ hR
 cases oK k1
 exact ⟨Or.inl rfl, (by rw [hl]; exact hR), pE _⟩
theorem Qf {a0 : AB} {a1 : (Sl AD)} {r : ((Sl AC) × Bool)} (k0 : BS a0 a1 = some r) : Fin zL 33 [yA.enc a0, yA.enc a1] (yA.enc r) := by
 unfold BS at k0; replace k0 := kq k0
 refine yR E8 Q9 ?_
 rintro low s ⟨r0, r1, -⟩ hl hf
 refine Ra hl hf ?_
 rintro g1 s ⟨r1, r2, r4, r5, -⟩ hl hf
 obtain ⟨c2, hc2⟩ := IM (LP := zL) (ds := [yA.enc a0, yA.enc a1]) (fun low => LN (low := low) a0 a1); simp only [List.map_cons, List.map_nil] at hc2
 have q4 := @hc2
 refine Ra hl hf ?_
 rintro g3 s ⟨r4, r5, r9, -⟩ hl hf
 refine ye ?_
 obtain ⟨⟨_, o10⟩, l11, k3⟩ := yK k0
 refine Run.rng (B := E8) (base := low) (n := 53) (a := []) (b := [.d (.fptr (yA.cells a0) 0), .d (.fptr [yA.enc a1] 0)]) (jm := fun (x : (Sl AC)) => match x with | _ => xt.ret) (l := fun (o : (Unit) ⊕ (Sl AC)) => match o with | .inl _ => [(4, .box (g1 + 1) [.d (yA.enc (Sl.nil : (Sl AC)))]), (5, .box (g1 + 1 + 1) [.d (.bool false)]), (9, .v (.d (.fn 53 [] [.fptr (yA.cells a0) 0, .fptr [yA.enc a1] 0])))] | .inr y6 => [(4, .box (g1 + 1) [Sl.lv y6]), (5, .box (g1 + 1 + 1) [.d (.bool true)]), (9, .v (.d (.fn 53 [] [.fptr (yA.cells a0) 0, .fptr [yA.enc a1] 0])))]) (t0 := ()) (st' := o10) (v := .d (.tup [])) hl hf (by simp only [QZ, KN, Gp, r9, Jo, QY, V5, aw, List.map_cons, List.map_nil]) ⟨r4, r5, r9, trivial⟩ ?_ ?_
 ·intro g low1 hc
  refine HY (R := qL E8 low g [10] _ _ (fun (x : (Sl AC)) => match x with | _ => xt.ret) (fun (o : (Unit) ⊕ (Sl AC)) => match o with | .inl _ => [(4, .box (g1 + 1) [.d (yA.enc (Sl.nil : (Sl AC)))]), (5, .box (g1 + 1 + 1) [.d (.bool false)]), (9, .v (.d (.fn 53 [] [.fptr (yA.cells a0) 0, .fptr [yA.enc a1] 0])))] | .inr y6 => [(4, .box (g1 + 1) [Sl.lv y6]), (5, .box (g1 + 1 + 1) [.d (.bool true)]), (9, .v (.d (.fn 53 [] [.fptr (yA.cells a0) 0, .fptr [yA.enc a1] 0])))])) (fun st l h => cm st l h) ?_  hc l11
  refine KQ (by decide) (fun _ => rfl) ?_
  rintro a5 _ out k1 e above low0 lw lp s hr ha hr0 hBB hl hf
  obtain ⟨e4, e5, e9, -⟩ := hr0
  have r4 : s.raw 4 = some (.v (.ptr low.length 4 (g1 + 1) 0)) := hr 4 _ rfl e4
  have r5 : s.raw 5 = some (.v (.ptr low.length 5 (g1 + 1 + 1) 0)) := hr 5 _ rfl e5
  have r9 : s.raw 9 = some (.v (.d (.fn 53 [] [.fptr (yA.cells a0) 0, .fptr [yA.enc a1] 0]))) := hr 9 _ rfl e9
  obtain ⟨r10, -⟩ := ha
  unfold CW at k1
  replace k1 := kq k1
  refine Nx.run <| Ra hl hf ?_
  rintro g7 s ⟨r4, r5, r6, -⟩ hl hf
  refine ⟨rfl, hl, ?_⟩
  intro s2 hraw hl
  replace r4 := (hraw 4).trans r4
  replace r5 := (hraw 5).trans r5
  replace r6 := (hraw 6).trans r6
  replace hf := yT.congr hf hraw
  clear hraw
  obtain ⟨s, hs⟩ : ∃ q, q = s2 := ⟨_, rfl⟩
  rw [← hs] at r4 r5 r6 hl hf
  rw [← hs]
  clear hs s2
  have hB := hBB
  obtain ⟨m4, m5, m9, -⟩ := Jp.all hB
  have hlt : low.length < lw.length := by have := Jp.len hB; omega
  refine Nx.run <| ye ?_
  obtain ⟨v8, h9, k2⟩ := yK k1
  refine regS (B := E8) (low := lw) (Q := fun q => q = (Dh (Dh lw low.length 4 (.box (g1 + 1) [Sl.lv v8])) low.length 5 (.box (g1 + 1 + 1) [.d (.bool true)]))) [] hl hf ?_ ?_
  ·simp only [rs, LM, JA, Hm, Oz, Oq, hl, yO hf, r4, r5, r6, m4, m5, m9, hlt, (OO (sz := 3) rfl h9), (UR (x := v8)), (Xq (v := .bool true)), reduceCtorEq, Nat.reduceEqDiff, Nat.reduceAdd]
  rintro s - hl hf
  replace hl : s.low = (Dh (Dh lw low.length 4 (.box (g1 + 1) [Sl.lv v8])) low.length 5 (.box (g1 + 1 + 1) [.d (.bool true)])) := hl
  replace hB := Jp.set (l' := [(4, .box (g1 + 1) [Sl.lv v8]), (5, .box (g1 + 1 + 1) [.d (.bool false)]), (9, .v (.d (.fn 53 [] [.fptr (yA.cells a0) 0, .fptr [yA.enc a1] 0])))]) hB 4 _ rfl (fun s ⟨q4, q5, q9, _⟩ => ⟨(by rw [Aj, if_pos rfl]), (by rw [Aj, if_neg (by decide)]; exact q5), (by rw [Aj, if_neg (by decide)]; exact q9), trivial⟩)
  replace hB := Jp.set (l' := [(4, .box (g1 + 1) [Sl.lv v8]), (5, .box (g1 + 1 + 1) [.d (.bool true)]), (9, .v (.d (.fn 53 [] [.fptr (yA.cells a0) 0, .fptr [yA.enc a1] 0])))]) hB 5 _ rfl (fun s ⟨q4, q5, q9, _⟩ => ⟨(by rw [Aj, if_neg (by decide)]; exact q4), (by rw [Aj, if_pos rfl]), (by rw [Aj, if_neg (by decide)]; exact q9), trivial⟩)
  obtain ⟨lw, hlow⟩ : ∃ q, q = (Dh (Dh lw low.length 4 (.box (g1 + 1) [Sl.lv v8])) low.length 5 (.box (g1 + 1 + 1) [.d (.bool true)])) := ⟨_, rfl⟩
  rw [← hlow] at hl hB
  obtain ⟨m4, m5, m9, -⟩ := Jp.all hB
  have hlt : low.length < lw.length := by have := Jp.len hB; omega
  obtain rfl := oK k2
  exact ⟨rfl, rfl, (show xt.ret ≠ xt.normal by decide), by rw [hl]; exact W2 hB (fun s ⟨q4, q5, q9, _⟩ => ⟨q4, q5, q9, trivial⟩)⟩
 ·intro s hl hf hq
  rcases o10 with _ | y6
  ·try dsimp only at k3 hq
   obtain ⟨r4, r5, r9, -⟩ := hq
   refine rZ ?_
   have q13 := @ig
   refine Ra hl hf ?_
   rintro g12 s ⟨r4, r5, -⟩ hl hf
   cases oK k3
   exact ⟨Or.inr rfl, hl, Bf (Wy r4) (Wy r5)⟩
  ·try dsimp only at k3 hq
   obtain ⟨r4, r5, r9, -⟩ := hq
   refine rZ ?_
   cases oK k3
   exact ⟨Or.inr rfl, hl, Bf (Vy r4) (Wy r5)⟩
def G9 := fun a0 a1 => Cq.mk (@Qf a0 a1)
theorem KW (n : Nat) : ∀ (low : List Fr) (a0 : (Sl Int)) (a1 : Int) (a2x : AB) (pja2 : Nat) (pta2 : Nat) (pga2 : Nat) (pja3 : Nat) (pta3 : Nat) (pga3 : Nat), IQ low pja2 pta2 = some (.box pga2 ((yA.cells a2x).map LV.d)) → IQ low pja3 pta3 = some (.box pga3 [.fn 63 [] [.ptr pja2 pta2 pga2 0, .ptr pja3 pta3 pga3 0]]) → ∀ r : (T3 (Sl Int) (Sl AC) Bool), Ac n a0 a1 a2x = some r → LD zL 63 [.d (yA.enc a0), .d (.int a1), .ptr pja2 pta2 pga2 0, .ptr pja3 pta3 pga3 0] low (.d (yA.enc r)) := by
 induction n with
 | zero => intro low a0 a1 a2x pja2 pta2 pga2 pja3 pta3 pga3 ba2 ba3 r k0; simp [Ac] at k0
 | succ n ih =>
  intro low a0 a1 a2x pja2 pta2 pga2 pja3 pta3 pga3 ba2 ba3 r k0
  simp only [Ac] at k0; replace k0 := kq k0
  refine jG Dq HW ?_
  rintro s r hl hf
  have q52 := @TI
  have q53 := @G9
  have q54 := @FA
  refine Ra hl hf ?_
  rintro g1 s r hl hf
  refine Ra hl hf ?_
  rintro g2 s r hl hf
  refine Ra hl hf ?_
  rintro g3 s r hl hf
  refine FI r.2.2.2.2.2.1 k0 (fun c4 k0 => ?_) fun c4 k0 => ?_
  ·obtain ⟨v5, h6, k1⟩ := yK k0
   obtain ⟨v7, h8, k2⟩ := yK k1
   obtain ⟨v9, h10, k3⟩ := yK k2
   have q12 := Ea ba2
   have q13 := Ea ba2
   have q14 := Ea ba2
   refine Ra hl hf ?_
   rintro g11 s r hl hf
   refine Ra hl hf ?_
   rintro g15 s r hl hf
   cases oK k3
   exact ⟨Or.inr rfl, hl, YC (AN r.1) (AN r.2.1) (AN r.2.2.1)⟩
  refine Ra hl hf ?_
  rintro g16 s r hl hf
  refine Ra hl hf ?_
  rintro g17 s r hl hf
  obtain ⟨o19, k4, k5⟩ := yK k0
  replace k4 := kq k4
  refine xZ (Q := (fun (y18 : Int) j s => j = .normal ∧ Dc [E_ 0 a0, I_ 1 a1, (2, .v (.ptr pja2 pta2 pga2 0)), (3, .v (.ptr pja3 pta3 pga3 0)), I_ 9 a0.len, I_ 12 y18] s ∧ s.low = low ∧ yT Dq s) o19) ?_ ?_
  ·refine FI r.2.2.2.2.2.2.1 k4 (fun c20 k4 => ?_) fun c20 k4 => ?_
   ·obtain ⟨v21, h22, k6⟩ := yK k4
    refine Ra hl hf ?_
    rintro g23 s r hl hf
    obtain rfl := oK k6
    exact ⟨rfl, r, hl, hf⟩
   obtain rfl := oK k4
   exact ⟨rfl, ⟨r.1, r.2.1, r.2.2.1, r.2.2.2.1, r.2.2.2.2.1, r.2.2.2.2.2.1, trivial⟩, hl, hf⟩
  intro j s hq
  obtain ⟨y18, rfl⟩ : ∃ x, x = o19 := ⟨_, rfl⟩
  try dsimp only at k5 hq
  obtain ⟨rfl, r, hl, hf⟩ := hq
  refine Ra hl hf ?_
  rintro g24 s r hl hf
  refine ye ?_
  obtain ⟨o27, l28, k7⟩ := yK k5
  refine A8 (f := Aw (Ac n) a0 a1 a2x) (E := fun (x : Int) s => Dc [E_ 0 a0, I_ 1 a1, (2, .v (.ptr pja2 pta2 pga2 0)), (3, .v (.ptr pja3 pta3 pga3 0)), I_ 9 a0.len, I_ 13 x] s ∧ s.low = low ∧ yT Dq s) (Q := fun (o : ((T3 (Sl Int) (Sl AC) Bool) ⊕ (Unit))) j s => match o with | .inl w26 => j = .ret ∧ yH HW.1 low (.d (yA.enc w26)) .ret s | .inr _ => j = .exit 0 ∧ Dc [] s ∧ s.low = low ∧ yT Dq s) l28 ?_ ⟨r, hl, hf⟩ ?_
  ·rintro x25 s out ⟨r, hl, hf⟩ k8
   unfold Aw at k8
   have q30 := Ea ba2
   refine Ra hl hf ?_
   rintro g29 s r hl hf
   refine FI r.2.2.2.2.2.2.1 k8 (fun c31 k8 => ?_) fun c31 k8 => ?_
   ·refine ye ?_
    obtain ⟨v32, h33, k9⟩ := yK k8
    obtain ⟨v34, h35, k10⟩ := yK k9
    obtain ⟨v36, h37, k11⟩ := yK k10
    have q40 := @Ih
    have q41 := @nb
    have q42 := Ea ba3
    have q43 := OO (sz := 1) rfl h33
    have q44 := Eb (sz := 1) (x := v32) (y := (Sl.cold [x25] : Sl Int)) rfl rfl h35
    have f38 : ∀ (e : xl) (c : Nat), (om zL).call 63 [.d (yA.enc v34), .d (.int a1), .ptr pja2 pta2 pga2 0, .ptr pja3 pta3 pga3 0] (low ++ [⟨e, none⟩]) c = some (.d (yA.enc (v36)), low ++ [⟨e, none⟩], UA zL 63 [.d (yA.enc v34), .d (.int a1), .ptr pja2 pta2 pga2 0, .ptr pja3 pta3 pga3 0] (low ++ [⟨e, none⟩]) c) := fun e c => LD.om (ih (low ++ [(⟨e, none⟩ : Fr)]) v34 a1 a2x _ _ _ _ _ _ (HD ba2) (HD ba3) v36 h37) c
    have q46 := @f38
    refine Ra hl hf ?_ (h := by intro c; simp only [(lC h35 (by simp)), rt, ps, yO hf, *, reduceCtorEq, Nat.reduceEqDiff, Nat.reduceAdd, Nat.reduceMul] <;> rfl)
    rintro g39 s r hl hf
    refine Ra hl hf ?_
    rintro g47 s r hl hf
    refine FI r.2.2.2.2.2.2.2.2.1 k11 (fun c48 k11 => ?_) fun c48 k11 => ?_
    ·refine Ra hl hf ?_
     rintro g49 s r hl hf
     obtain rfl := oK k11
     exact ⟨by decide, ⟨rfl, ⟨Or.inr rfl, hl, YC (AN r.1) (AN r.2.1) (AN r.2.2.1)⟩⟩⟩
    refine Ra hl hf ?_
    rintro g50 s r hl hf
    obtain rfl := oK k11
    exact ⟨rfl, r, hl, hf⟩
   obtain rfl := oK k8
   exact ⟨by decide, ⟨rfl, trivial, hl, hf⟩⟩
  intro j s hq
  rcases o27 with w26 | _
  ·try dsimp only at k7 hq
   obtain ⟨rfl, hq⟩ := hq
   cases oK k7
   exact hq
  try dsimp only at k7 hq
  obtain ⟨rfl, -, hl, hf⟩ := hq
  refine Ra hl hf ?_
  rintro g51 s r hl hf
  cases oK k7
  exact ⟨Or.inr rfl, hl, YC (AN r.1) (AN r.2.1) (AN r.2.2.1)⟩
theorem Is {a0 : AB} {r : ((Sl Int) × (Sl AC))} (k0 : BM a0 = some r) : Fin zL 37 [yA.enc a0] (yA.enc r) := by
 unfold BM at k0; replace k0 := kq k0
 refine yR Gk JH ?_
 rintro low s r hl hf
 refine Ra hl hf ?_
 rintro g1 s r hl hf
 refine Ra hl hf ?_
 rintro g2 s r hl hf
 have q4 := @Of
 refine Ra hl hf ?_
 rintro g3 s r hl hf
 refine Ra hl hf ?_
 rintro g5 s r hl hf
 refine ye ?_
 obtain ⟨o8, l9, k1⟩ := yK k0
 refine A8 (f := A0 a0) (E := fun (x : Int) s => Dc [C_ 1 g1 a0, (4, .box g2 [.fn 63 [] [.ptr low.length 1 g1 0, .ptr low.length 4 g2 0]]), I_ 13 a0.BenchBook.Pieces.len, I_ 14 x] s ∧ s.low = low ∧ yT Gk s) (Q := fun (o : (((Sl Int) × (Sl AC)) ⊕ (Unit))) j s => match o with | .inl w7 => j = .ret ∧ yH JH.1 low (.d (yA.enc w7)) .ret s | .inr _ => j = .exit 0 ∧ Dc [C_ 1 g1 a0, (4, .box g2 [.fn 63 [] [.ptr low.length 1 g1 0, .ptr low.length 4 g2 0]])] s ∧ s.low = low ∧ yT Gk s) l9 ?_ ⟨r, hl, hf⟩ ?_
 ·rintro x6 s out ⟨r, hl, hf⟩ k2
  unfold A0 at k2
  refine Ra hl hf ?_
  rintro g10 s r hl hf
  refine FI r.2.2.2.2.1 k2 (fun c11 k2 => ?_) fun c11 k2 => ?_
  ·refine ye <| Ra hl hf ?_
   rintro g12 s r hl hf
   obtain ⟨v13, h14, k3⟩ := yK k2
   have q17 := @Ih
   have q18 := @nb
   have f15 : ∀ (e : xl) (c : Nat) (z0 : xl.get 1 e = some (.box g1 ((yA.cells a0).map LV.d))) (z1 : xl.get 4 e = some (.box g2 [.fn 63 [] [.ptr low.length 1 g1 0, .ptr low.length 4 g2 0]])), (om zL).call 63 [.d .nils, .d (.int x6), .ptr low.length 1 g1 0, .ptr low.length 4 g2 0] (low ++ [⟨e, none⟩]) c = some (.d (yA.enc (v13)), low ++ [⟨e, none⟩], UA zL 63 [.d .nils, .d (.int x6), .ptr low.length 1 g1 0, .ptr low.length 4 g2 0] (low ++ [⟨e, none⟩]) c) := fun e c z0 z1 => LD.om (KW 64 (low ++ [(⟨e, none⟩ : Fr)]) (Sl.nil : (Sl Int)) x6 a0 _ _ _ _ _ _ (Rf z0) (Rf z1) v13 h14) c
   have q19 := @f15
   refine Ra hl hf ?_
   rintro g16 s r hl hf
   refine Ra hl hf ?_
   rintro g20 s r hl hf
   refine FI r.2.2.2.2.2.2.1 k3 (fun c21 k3 => ?_) fun c21 k3 => ?_
   ·refine Ra hl hf ?_
    rintro g22 s r hl hf
    obtain rfl := oK k3
    exact ⟨by decide, ⟨rfl, ⟨Or.inr rfl, hl, Bf (AN r.1) (AN r.2.1)⟩⟩⟩
   refine Ra hl hf ?_
   rintro g23 s r hl hf
   obtain rfl := oK k3
   exact ⟨rfl, r, hl, hf⟩
  obtain rfl := oK k2
  exact ⟨by decide, ⟨rfl, ⟨r.1, r.2.1, trivial⟩, hl, hf⟩⟩
 intro j s hq
 rcases o8 with w7 | _
 ·try dsimp only at k1 hq
  obtain ⟨rfl, hq⟩ := hq
  cases oK k1
  exact hq
 try dsimp only at k1 hq
 obtain ⟨rfl, r, hl, hf⟩ := hq
 obtain ⟨v25, h26, k4⟩ := yK k1
 obtain ⟨c24, hc24⟩ := IM (LP := zL) (ds := [yA.enc a0, .nils]) (FB h26); simp only [List.map_cons, List.map_nil] at hc24
 have q28 := @hc24
 refine Ra hl hf ?_
 rintro g27 s r hl hf
 cases oK k4
 exact ⟨Or.inr rfl, hl, Bf (AN r.1) (AN r.2.1)⟩
def JP := fun a0 => Cq.mk (@Is a0)
theorem J3 {low : List Fr} (a0 : Int) (a1x : Int) {pja1 : Nat} {pta1 : Nat} {pga1 : Nat} (ba1 : IQ low pja1 pta1 = some (.box pga1 [.d (.int a1x)])) : LD zL 39 [.d (.int a0), .ptr pja1 pta1 pga1 0] low (.d (.bool (EV a0 a1x))) := by
 refine jG XU WU ?_
 rintro s r hl hf
 refine Ra hl hf ?_
 rintro g1 s r hl hf
 have q3 := Ea ba1
 refine Ra hl hf ?_
 rintro g2 s r hl hf
 exact ⟨Or.inr rfl, hl, AQ (AN r.1)⟩
theorem R2 {low : List Fr} {a0 : BenchBook} {a1s0c0x : Int} {pja1s0c0 : Nat} {pta1s0c0 : Nat} {pga1s0c0 : Nat} (ba1s0c0 : IQ low pja1s0c0 pta1s0c0 = some (.box pga1s0c0 [.d (.int a1s0c0x)])) {r : AB} (k0 : ER a0 a1s0c0x = some r) : LD zL 38 [.d (yA.enc a0), .agg [.fn 39 [] [.ptr pja1s0c0 pta1s0c0 pga1s0c0 0]]] low (.d (yA.enc r)) := by
 unfold ER at k0; replace k0 := kq k0
 refine jG BB Pm ?_
 rintro s r hl hf
 have q2 := @js
 have q3 := @eX
 have q4 := @IS
 refine Ra hl hf ?_
 rintro g1 s r hl hf
 have q6 := @Fp
 have q7 := @Hk
 have q8 := @O8
 have q9 := @Jg
 have q10 := @IS
 have q11 := @nq
 refine Ra hl hf ?_ (h := by intro c; simp only [(TQ (n := 2) (AG.mk (-1) (-1)) rfl (by decide)), (Q7 (LP := zL) (t := 13) (gm := c + 1) (key := (BU.key (AG.mk (-1) (-1)))) (a := (Sl.nil : (Sl Int))) (vd := .nils) (hav := rfl)), rt, ps, yO hf, *, reduceCtorEq, Nat.reduceEqDiff, Nat.reduceAdd, Nat.reduceMul] <;> rfl)
 rintro g5 s r hl hf
 have q15 := @J5
 have q16 := @Dy
 refine Ra hl hf ?_
 rintro g14 s r hl hf
 refine Ra hl hf ?_
 rintro g17 s r hl hf
 refine ye ?_
 obtain ⟨o21, l22, k1⟩ := yK k0
 refine A8 (f := D1 a0 a1s0c0x) (E := fun (x : (List (List Int × (Sl Int))) × Int) s => Dc [C_ 2 g1 a0, (3, .box (g1 + 1) [.fn 39 [] [.ptr pja1s0c0 pta1s0c0 pga1s0c0 0]]), C_ 4 (g1 + 1 + 1) (AB.mk (BenchBook.mk (VoiceBook.mk (Sl.nil : (Sl AL)) 0 (Sl.nil : (Sl AK))) (Sl.nil : (Sl AI)) 0) (Mp.nil : (Mp 2 (Sl Int)))), (5, .box (g5 + 1 + 1 + 1 + 1 + 1 + 1) (AB.lc (AB.mk a0 (Mp.nil : (Mp 2 (Sl Int)))) low.length 13 (g5 + 1))), (6, .v (.fn 64 [.agg (AB.lc (AB.mk a0 (Mp.nil : (Mp 2 (Sl Int)))) low.length 13 (g5 + 1))] [])), (13, .mapo (g5 + 1) 2 (Ds x.1)), E_ 20 a0.Pieces, I_ 21 a0.Pieces.len, I_ 22 x.2] s ∧ s.low = low ∧ yT BB s) (Q := fun (y20 : (List (List Int × (Sl Int)))) j s => j = .exit 0 ∧ Dc [C_ 2 g1 a0, (3, .box (g1 + 1) [.fn 39 [] [.ptr pja1s0c0 pta1s0c0 pga1s0c0 0]]), C_ 4 (g1 + 1 + 1) (AB.mk (BenchBook.mk (VoiceBook.mk (Sl.nil : (Sl AL)) 0 (Sl.nil : (Sl AK))) (Sl.nil : (Sl AI)) 0) (Mp.nil : (Mp 2 (Sl Int)))), (5, .box (g5 + 1 + 1 + 1 + 1 + 1 + 1) (AB.lc (AB.mk a0 (Mp.nil : (Mp 2 (Sl Int)))) low.length 13 (g5 + 1))), (13, .mapo (g5 + 1) 2 (Ds y20))] s ∧ s.low = low ∧ yT BB s) l22 ?_ ⟨r, hl, hf⟩ ?_
 ·rintro ⟨x18, x19⟩ s out ⟨r, hl, hf⟩ k2
  dsimp only at r
  simp only [D1] at k2
  refine Ra hl hf ?_
  rintro g23 s r hl hf
  refine FI r.2.2.2.2.2.2.2.2.2.1 k2 (fun c24 k2 => ?_) fun c24 k2 => ?_
  ·refine ye ?_
   obtain ⟨v25, h26, k3⟩ := yK k2
   refine Ra hl hf ?_
   rintro g27 s r hl hf
   refine Ra hl hf ?_
   rintro g28 s r hl hf
   refine ye ?_
   obtain ⟨o32, l33, k4⟩ := yK k3
   refine A8 (f := D8 a0 a1s0c0x x19 v25) (E := fun (x : (List (List Int × (Sl Int))) × Int) s => Dc [C_ 2 g1 a0, (3, .box (g1 + 1) [.fn 39 [] [.ptr pja1s0c0 pta1s0c0 pga1s0c0 0]]), C_ 4 (g1 + 1 + 1) (AB.mk (BenchBook.mk (VoiceBook.mk (Sl.nil : (Sl AL)) 0 (Sl.nil : (Sl AK))) (Sl.nil : (Sl AI)) 0) (Mp.nil : (Mp 2 (Sl Int)))), (5, .box (g5 + 1 + 1 + 1 + 1 + 1 + 1) (AB.lc (AB.mk a0 (Mp.nil : (Mp 2 (Sl Int)))) low.length 13 (g5 + 1))), (6, .v (.fn 64 [.agg (AB.lc (AB.mk a0 (Mp.nil : (Mp 2 (Sl Int)))) low.length 13 (g5 + 1))] [])), I_ 7 x19, (13, .mapo (g5 + 1) 2 (Ds x.1)), E_ 20 a0.Pieces, I_ 21 a0.Pieces.len, I_ 22 x19, I_ 29 v25.Parts.len, I_ 30 x.2] s ∧ s.low = low ∧ yT BB s) (Q := fun (y31 : (List (List Int × (Sl Int)))) j s => j = .exit 2 ∧ Dc [C_ 2 g1 a0, (3, .box (g1 + 1) [.fn 39 [] [.ptr pja1s0c0 pta1s0c0 pga1s0c0 0]]), C_ 4 (g1 + 1 + 1) (AB.mk (BenchBook.mk (VoiceBook.mk (Sl.nil : (Sl AL)) 0 (Sl.nil : (Sl AK))) (Sl.nil : (Sl AI)) 0) (Mp.nil : (Mp 2 (Sl Int)))), (5, .box (g5 + 1 + 1 + 1 + 1 + 1 + 1) (AB.lc (AB.mk a0 (Mp.nil : (Mp 2 (Sl Int)))) low.length 13 (g5 + 1))), (6, .v (.fn 64 [.agg (AB.lc (AB.mk a0 (Mp.nil : (Mp 2 (Sl Int)))) low.length 13 (g5 + 1))] [])), (13, .mapo (g5 + 1) 2 (Ds y31)), E_ 20 a0.Pieces, I_ 21 a0.Pieces.len, I_ 22 x19] s ∧ s.low = low ∧ yT BB s) l33 ?_ ⟨r, hl, hf⟩ ?_
   ·rintro ⟨x29, x30⟩ s out ⟨r, hl, hf⟩ k5
    dsimp only at r
    simp only [D8] at k5
    refine Ra hl hf ?_
    rintro g34 s r hl hf
    refine FI r.2.2.2.2.2.2.2.2.2.2.2.2.1 k5 (fun c35 k5 => ?_) fun c35 k5 => ?_
    ·refine ye <| Ra hl hf ?_
     rintro g36 s r hl hf
     have q38 := @E7
     refine Ra hl hf ?_
     rintro g37 s r hl hf
     refine Ra hl hf ?_
     rintro g39 s r hl hf
     refine ye ?_
     obtain ⟨o43, l44, k6⟩ := yK k5
     refine A8 (f := D5 a0 a1s0c0x x19 x30) (E := fun (x : (List (List Int × (Sl Int))) × Int) s => Dc [C_ 2 g1 a0, (3, .box (g1 + 1) [.fn 39 [] [.ptr pja1s0c0 pta1s0c0 pga1s0c0 0]]), C_ 4 (g1 + 1 + 1) (AB.mk (BenchBook.mk (VoiceBook.mk (Sl.nil : (Sl AL)) 0 (Sl.nil : (Sl AK))) (Sl.nil : (Sl AI)) 0) (Mp.nil : (Mp 2 (Sl Int)))), (5, .box (g5 + 1 + 1 + 1 + 1 + 1 + 1) (AB.lc (AB.mk a0 (Mp.nil : (Mp 2 (Sl Int)))) low.length 13 (g5 + 1))), (6, .v (.fn 64 [.agg (AB.lc (AB.mk a0 (Mp.nil : (Mp 2 (Sl Int)))) low.length 13 (g5 + 1))] [])), I_ 7 x19, C_ 10 (g37 + 1 + 1 + 1) (AG.mk x19 x30), (13, .mapo (g5 + 1) 2 (Ds x.1)), E_ 20 a0.Pieces, I_ 21 a0.Pieces.len, I_ 22 x19, I_ 29 v25.Parts.len, I_ 30 x30, I_ 39 a0.Voice.Boys.len, I_ 40 x.2] s ∧ s.low = low ∧ yT BB s) (Q := fun (y42 : (List (List Int × (Sl Int)))) j s => j = .exit 4 ∧ Dc [C_ 2 g1 a0, (3, .box (g1 + 1) [.fn 39 [] [.ptr pja1s0c0 pta1s0c0 pga1s0c0 0]]), C_ 4 (g1 + 1 + 1) (AB.mk (BenchBook.mk (VoiceBook.mk (Sl.nil : (Sl AL)) 0 (Sl.nil : (Sl AK))) (Sl.nil : (Sl AI)) 0) (Mp.nil : (Mp 2 (Sl Int)))), (5, .box (g5 + 1 + 1 + 1 + 1 + 1 + 1) (AB.lc (AB.mk a0 (Mp.nil : (Mp 2 (Sl Int)))) low.length 13 (g5 + 1))), (6, .v (.fn 64 [.agg (AB.lc (AB.mk a0 (Mp.nil : (Mp 2 (Sl Int)))) low.length 13 (g5 + 1))] [])), I_ 7 x19, C_ 10 (g37 + 1 + 1 + 1) (AG.mk x19 x30), (13, .mapo (g5 + 1) 2 (Ds y42)), E_ 20 a0.Pieces, I_ 21 a0.Pieces.len, I_ 22 x19, I_ 29 v25.Parts.len, I_ 30 x30] s ∧ s.low = low ∧ yT BB s) l44 ?_ ⟨r, hl, hf⟩ ?_
     ·rintro ⟨x40, x41⟩ s out ⟨r, hl, hf⟩ k7
      dsimp only at r
      simp only [D5] at k7
      refine Ra hl hf ?_
      rintro g45 s r hl hf
      refine FI r.2.2.2.2.2.2.2.2.2.2.2.2.2.2.2.1 k7 (fun c46 k7 => ?_) fun c46 k7 => ?_
      ·refine ye <| Ra hl hf ?_
       rintro g47 s r hl hf
       obtain ⟨o53, q54, k8⟩ := yK k7
       refine mC [C_ 2 g1 a0, (3, .box (g1 + 1) [.fn 39 [] [.ptr pja1s0c0 pta1s0c0 pga1s0c0 0]]), C_ 4 (g1 + 1 + 1) (AB.mk (BenchBook.mk (VoiceBook.mk (Sl.nil : (Sl AL)) 0 (Sl.nil : (Sl AK))) (Sl.nil : (Sl AI)) 0) (Mp.nil : (Mp 2 (Sl Int)))), (5, .box (g5 + 1 + 1 + 1 + 1 + 1 + 1) (AB.lc (AB.mk a0 (Mp.nil : (Mp 2 (Sl Int)))) low.length 13 (g5 + 1))), (6, .v (.fn 64 [.agg (AB.lc (AB.mk a0 (Mp.nil : (Mp 2 (Sl Int)))) low.length 13 (g5 + 1))] [])), I_ 7 x19, C_ 10 (g37 + 1 + 1 + 1) (AG.mk x19 x30), I_ 11 x41, (13, .mapo (g5 + 1) 2 (Ds x40)), E_ 20 a0.Pieces, I_ 21 a0.Pieces.len, I_ 22 x19, I_ 29 v25.Parts.len, I_ 30 x30, I_ 39 a0.Voice.Boys.len, I_ 40 x41, B_ 53 o53] hl hf ?_ ?_
       ·by_cases c49 : (EV x41 a1s0c0x) = true
        ·rw [if_pos c49] at q54
         have e1 := oI q54
         have f48 : ∀ (e : xl) (c : Nat), (om zL).call 39 [.d (.int x41), .ptr pja1s0c0 pta1s0c0 pga1s0c0 0] (low ++ [⟨e, none⟩]) c = some (.d (.bool ((EV x41 a1s0c0x))), low ++ [⟨e, none⟩], UA zL 39 [.d (.int x41), .ptr pja1s0c0 pta1s0c0 pga1s0c0 0] (low ++ [⟨e, none⟩]) c) := fun e c => LD.om (J3 x41 a1s0c0x (HD ba1s0c0)) c
         simp only [rs, ps, Bj, HF, Ih, DR, hl, yO hf, r, f48, c49, ← e1, reduceCtorEq, Nat.reduceEqDiff, Nat.reduceAdd]
        rw [if_neg c49] at q54
        have c49 := eq_false_of_ne_true c49
        obtain ⟨v50, h51, q72⟩ := ya q54
        have e1 := oI q72
        have f48 : ∀ (e : xl) (c : Nat), (om zL).call 39 [.d (.int x41), .ptr pja1s0c0 pta1s0c0 pga1s0c0 0] (low ++ [⟨e, none⟩]) c = some (.d (.bool ((EV x41 a1s0c0x))), low ++ [⟨e, none⟩], UA zL 39 [.d (.int x41), .ptr pja1s0c0 pta1s0c0 pga1s0c0 0] (low ++ [⟨e, none⟩]) c) := fun e c => LD.om (J3 x41 a1s0c0x (HD ba1s0c0)) c
        have f52 : ∀ (e : xl) (c : Nat), (om zL).call 64 [.agg (AB.lc (AB.mk a0 (Mp.nil : (Mp 2 (Sl Int)))) low.length 13 (g5 + 1)), .d (yA.enc (AG.mk x19 x30)), .d (.int x41)] (low ++ [⟨e, none⟩]) c = some (.d (.bool (v50)), low ++ [⟨e, none⟩], UA zL 64 [.agg (AB.lc (AB.mk a0 (Mp.nil : (Mp 2 (Sl Int)))) low.length 13 (g5 + 1)), .d (yA.enc (AG.mk x19 x30)), .d (.int x41)] (low ++ [⟨e, none⟩]) c) := fun e c => LD.om (JS (by first | omega | (simp only [List.length_append, List.length_cons, List.length_nil]; omega)) h51) c
        simp only [rs, ps, Bj, HF, Ih, DR, hl, yO hf, r, f48, c49, f52, ← e1, reduceCtorEq, Nat.reduceEqDiff, Nat.reduceAdd]
       rintro s r hl hf
       refine FI r.2.2.2.2.2.2.2.2.2.2.2.2.2.2.2.2.1 k8 (fun c57 k8 => ?_) fun c57 k8 => ?_
       ·refine Ra hl hf ?_
        rintro g58 s r hl hf
        obtain rfl := oK k8
        exact ⟨rfl, r, hl, hf⟩
       obtain ⟨v59, h60, k9⟩ := yK k8
       have q62 := @O8
       have q63 := @Jg
       have q64 := @JK
       have q68 := Eb (sz := 1) (x := (NJ (Sl.nil : (Sl Int)) x40 (BU.key (AG.mk x19 x30)))) (y := (Sl.cold [x41] : Sl Int)) rfl rfl h60
       refine Ra hl hf ?_ (h := by intro c; simp only [(TQ (n := 2) (AG.mk x19 x30) rfl (by decide)), (SH (LP := zL) (t := 13) (gm := g5 + 1) (key := (BU.key (AG.mk x19 x30))) (es := x40) (z := (Sl.nil : (Sl Int))) (hz := rfl)), (bp (LP := zL) (a := (NJ (Sl.nil : (Sl Int)) x40 (BU.key (AG.mk x19 x30)))) (y := .d (.int (G1 x40 (BU.key (AG.mk x19 x30)))))), (R9 (LP := zL) (x := Sl.lv (Sl.spent (NJ (Sl.nil : (Sl Int)) x40 (BU.key (AG.mk x19 x30))))) (y := .int (G1 x40 (BU.key (AG.mk x19 x30))))), (SY (LP := zL) (t := 13) (gm := g5 + 1) (key := (BU.key (AG.mk x19 x30))) (es := x40) (z := (Sl.nil : (Sl Int))) (a := v59)), rt, ps, yO hf, *, reduceCtorEq, Nat.reduceEqDiff, Nat.reduceAdd, Nat.reduceMul] <;> rfl)
       rintro g61 s r hl hf
       refine Ra hl hf ?_
       rintro g71 s r hl hf
       obtain rfl := oK k9
       exact ⟨rfl, r, hl, hf⟩
      obtain rfl := oK k7
      exact ⟨by decide, ⟨rfl, ⟨r.1, r.2.1, r.2.2.1, r.2.2.2.1, r.2.2.2.2.1, r.2.2.2.2.2.1, r.2.2.2.2.2.2.1, r.2.2.2.2.2.2.2.1, r.2.2.2.2.2.2.2.2.1, r.2.2.2.2.2.2.2.2.2.1, r.2.2.2.2.2.2.2.2.2.2.1, r.2.2.2.2.2.2.2.2.2.2.2.1, r.2.2.2.2.2.2.2.2.2.2.2.2.1, trivial⟩, hl, hf⟩⟩
     intro j s hq
     obtain ⟨y42, rfl⟩ : ∃ x, x = o43 := ⟨_, rfl⟩
     try dsimp only at k6 hq
     obtain ⟨rfl, r, hl, hf⟩ := hq
     refine Ra hl hf ?_
     rintro g73 s r hl hf
     obtain rfl := oK k6
     exact ⟨rfl, r, hl, hf⟩
    obtain rfl := oK k5
    exact ⟨by decide, ⟨rfl, ⟨r.1, r.2.1, r.2.2.1, r.2.2.2.1, r.2.2.2.2.1, r.2.2.2.2.2.2.1, r.2.2.2.2.2.2.2.1, r.2.2.2.2.2.2.2.2.1, r.2.2.2.2.2.2.2.2.2.1, trivial⟩, hl, hf⟩⟩
   intro j s hq
   obtain ⟨y31, rfl⟩ : ∃ x, x = o32 := ⟨_, rfl⟩
   try dsimp only at k4 hq
   obtain ⟨rfl, r, hl, hf⟩ := hq
   refine Ra hl hf ?_
   rintro g74 s r hl hf
   obtain rfl := oK k4
   exact ⟨rfl, r, hl, hf⟩
  obtain rfl := oK k2
  exact ⟨by decide, ⟨rfl, ⟨r.1, r.2.1, r.2.2.1, r.2.2.2.1, r.2.2.2.2.2.1, trivial⟩, hl, hf⟩⟩
 intro j s hq
 obtain ⟨y20, rfl⟩ : ∃ x, x = o21 := ⟨_, rfl⟩
 try dsimp only at k1 hq
 obtain ⟨rfl, r, hl, hf⟩ := hq
 have q76 := @Fp
 have q77 := @Hk
 have q78 := @Dy
 refine Ra hl hf ?_
 rintro g75 s r hl hf
 cases oK k1
 exact ⟨Or.inr rfl, hl, AQ (Kx (by rw [hl]; exact r.1) r.2.1)⟩
theorem YG {a0 : Int} {a1 : (Sl Int)} {r : Int} (k0 : Hz a0 a1 = some r) : Fin zL 40 [.int a0, yA.enc a1] (.int r) := by
 unfold Hz at k0; replace k0 := kq k0
 refine yR NB bj ?_
 rintro low s r hl hf
 refine Ra hl hf ?_
 rintro g1 s r hl hf
 refine Ra hl hf ?_
 rintro g2 s r hl hf
 refine ye ?_
 obtain ⟨o6, l7, k1⟩ := yK k0
 refine A8 (f := IC a1) (E := fun (x : Int × Int) s => Dc [I_ 0 x.1, E_ 7 a1, I_ 8 a1.len, I_ 9 x.2] s ∧ s.low = low ∧ yT NB s) (Q := fun (y5 : Int) j s => j = .exit 0 ∧ Dc [I_ 0 y5] s ∧ s.low = low ∧ yT NB s) l7 ?_ ⟨r, hl, hf⟩ ?_
 ·rintro ⟨x3, x4⟩ s out ⟨r, hl, hf⟩ k2
  dsimp only at r
  simp only [IC] at k2
  refine Ra hl hf ?_
  rintro g8 s r hl hf
  refine FI r.2.2.2.2.1 k2 (fun c9 k2 => ?_) fun c9 k2 => ?_
  ·refine ye ?_
   obtain ⟨v10, h11, k3⟩ := yK k2
   refine Ra hl hf ?_
   rintro g12 s r hl hf
   have q14 := @cM
   refine Ra hl hf ?_
   rintro g13 s r hl hf
   refine Ra hl hf ?_
   rintro g15 s r hl hf
   obtain rfl := oK k3
   exact ⟨rfl, r, hl, hf⟩
  obtain rfl := oK k2
  exact ⟨by decide, ⟨rfl, ⟨r.1, trivial⟩, hl, hf⟩⟩
 intro j s hq
 obtain ⟨y5, rfl⟩ : ∃ x, x = o6 := ⟨_, rfl⟩
 try dsimp only at k1 hq
 obtain ⟨rfl, r, hl, hf⟩ := hq
 refine Ra hl hf ?_
 rintro g16 s r hl hf
 cases oK k1
 exact ⟨Or.inr rfl, hl, AQ (AN r.1)⟩
def aY := fun a0 a1 => Cq.mk (@YG a0 a1)
theorem bz {a0 : BenchBook} {r : ((Sl Int) × Int)} (k0 : Fe a0 = some r) : Fin zL 17 [yA.enc a0] (yA.enc r) := by
 unfold Fe at k0; replace k0 := kq k0
 refine yR OR dw ?_
 rintro low s r hl hf
 have q49 := @Fh
 have q50 := @JP
 have q51 := @aY
 refine Ra hl hf ?_
 rintro g1 s r hl hf
 obtain ⟨v2, h3, k1⟩ := yK k0
 refine Ra hl hf ?_
 rintro g4 s r hl hf
 refine Ra hl hf ?_
 rintro g5 s r hl hf
 refine Qy r.2.2.2.1 k1 (fun c6 k1 => ?_) fun c6 k1 => ?_
 ·obtain ⟨v7, h8, k2⟩ := yK k1
  refine Ra hl hf ?_
  rintro g9 s r hl hf
  refine Ra hl hf ?_
  rintro g10 s r hl hf
  refine Ra hl hf ?_
  rintro g11 s r hl hf
  refine ye ?_
  obtain ⟨o15, l16, k3⟩ := yK k2
  refine A8 (f := D6 a0 v7) (E := fun (x : (Sl Int) × Int) s => Dc [C_ 1 g1 a0, E_ 6 v7.1, (8, .v (Sl.lv x.1)), I_ 28 a0.Voice.Boys.len, I_ 29 x.2] s ∧ s.low = low ∧ yT OR s) (Q := fun (y14 : (Sl Int)) j s => j = .exit 0 ∧ Dc [C_ 1 g1 a0, (8, .v (Sl.lv y14))] s ∧ s.low = low ∧ yT OR s) l16 ?_ ⟨r, hl, hf⟩ ?_
  ·rintro ⟨yI, x13⟩ s out ⟨r, hl, hf⟩ k4
   dsimp only at r
   simp only [D6] at k4
   refine Ra hl hf ?_
   rintro g17 s r hl hf
   refine FI r.2.2.2.2.2.1 k4 (fun c18 k4 => ?_) fun c18 k4 => ?_
   ·refine ye <| Ra hl hf ?_
    rintro g19 s r hl hf
    obtain ⟨v20, h21, k5⟩ := yK k4
    obtain ⟨v24, h25, k6⟩ := yK k5
    have q27 := @rB
    have q28 := @qz
    have q29 := @qa
    have q30 := @lm
    have f22 : ∀ (e : xl) (c : Nat) (z0 : xl.get 9 e = some (.box (g19 + 1) [.d (.int x13)])), (om zL).call 38 [.d (yA.enc a0), .agg [.fn 39 [] [.ptr low.length 9 (g19 + 1) 0]]] (low ++ [⟨e, none⟩]) c = some (.d (yA.enc (v20)), low ++ [⟨e, none⟩], UA zL 38 [.d (yA.enc a0), .agg [.fn 39 [] [.ptr low.length 9 (g19 + 1) 0]]] (low ++ [⟨e, none⟩]) c) := fun e c z0 => LD.om (R2 (Rf z0) h21) c
    have q31 := @f22
    obtain ⟨yh, hc23⟩ := IM (LP := zL) (ds := [yA.enc v20]) (Is h25); simp only [List.map_cons, List.map_nil] at hc23
    have q32 := @hc23
    refine Ra hl hf ?_
    rintro g26 s r hl hf
    obtain ⟨v33, h34, k7⟩ := yK k6
    refine Ra hl hf ?_
    rintro g35 s r hl hf
    refine FI r.2.2.2.2.2.2.1 k7 (fun c36 k7 => ?_) fun c36 k7 => ?_
    ·obtain ⟨v37, h38, k8⟩ := yK k7
     have q40 := Eb (sz := 1) (x := yI) (y := (Sl.cold [x13] : Sl Int)) rfl rfl h38
     refine Ra hl hf ?_
     rintro g39 s r hl hf
     refine Ra hl hf ?_
     rintro g41 s r hl hf
     obtain rfl := oK k8
     exact ⟨rfl, r, hl, hf⟩
    refine Ra hl hf ?_
    rintro g42 s r hl hf
    obtain rfl := oK k7
    exact ⟨rfl, r, hl, hf⟩
   obtain rfl := oK k4
   exact ⟨by decide, ⟨rfl, ⟨r.1, r.2.2.1, trivial⟩, hl, hf⟩⟩
  intro j s hq
  obtain ⟨y14, rfl⟩ : ∃ x, x = o15 := ⟨_, rfl⟩
  try dsimp only at k3 hq
  obtain ⟨rfl, r, hl, hf⟩ := hq
  obtain ⟨v43, h44, k9⟩ := yK k3
  have q46 := @pA
  have q47 := OO (sz := 1) rfl h44
  refine Ra hl hf ?_
  rintro g45 s r hl hf
  cases oK k9
  exact ⟨Or.inr rfl, hl, Bf (jx r.1) (AN r.2.1)⟩
 refine Ra hl hf ?_
 rintro g48 s r hl hf
 cases oK k1
 exact ⟨Or.inr rfl, hl, Bf (AN r.1) (AN r.2.1)⟩
def UP := fun a0 => Cq.mk (@bz a0)
theorem ag {a0 : BenchBook} {r : (Int × Int)} (k0 : FX a0 = some r) : Fin zL 13 [yA.enc a0] (yA.enc r) := by
 unfold FX at k0; replace k0 := kq k0
 refine yR Jt gA ?_
 rintro low s ⟨r0, -⟩ hl hf
 have q22 := @Fh
 have q23 := @FA
 refine Ra hl hf ?_
 rintro g1 s ⟨r1, r2, r3, -⟩ hl hf
 obtain ⟨v2, h3, k1⟩ := yK k0
 refine Ra hl hf ?_
 rintro g4 s ⟨r2, r3, r4, r5, -⟩ hl hf
 refine Ra hl hf ?_
 rintro g5 s ⟨r2, r3, r4, r5, r13, -⟩ hl hf
 refine Qy r13 k1 (fun c6 k1 => ?_) fun c6 k1 => ?_
 ·refine Ra hl hf ?_
  rintro g7 s ⟨r2, r3, r4, r6, -⟩ hl hf
  obtain ⟨v8, h9, k2⟩ := yK k1
  obtain ⟨v10, h11, k3⟩ := yK k2
  have q13 := Fin.call (LP := zL) (ds := [yA.enc v2.1, .nils]) (FB h9)
  have q14 := Fin.call (LP := zL) (ds := [yA.enc v2.1, yA.enc v10]) (fun low => LN (low := low) v2.1 v10)
  refine Ra hl hf ?_
  rintro g12 s ⟨r2, r3, r6, r20, -⟩ hl hf
  refine ye ?_
  obtain ⟨⟨_, o17⟩, l18, k5⟩ := yK k3
  refine Run.rng (B := Jt) (base := low) (n := 53) (a := []) (b := [.d (.fptr (yA.cells v2.1) 0), .d (.fptr [yA.enc v10] 0)]) (jm := fun (_ : Unit) => xt.ret) (l := fun (o : (Int) ⊕ (Unit)) => match o with | .inl x16 => [(2, .v (.d (.int 0))), (3, .v (.d (.int 0))), (6, .box g7 [.d (.int x16)]), (20, .v (.d (.fn 53 [] [.fptr (yA.cells v2.1) 0, .fptr [yA.enc v10] 0])))] | .inr _ => []) (t0 := 0) (st' := o17) (v := .d (.tup [])) hl hf (by simp only [QZ, KN, Gp, r20, Jo, QY, V5, aw, List.map_cons, List.map_nil]) ⟨r2, r3, r6, r20, trivial⟩ ?_ ?_
  ·intro g low1 hc
   refine HY (R := qL Jt low g [21] _ _ (fun (_ : Unit) => xt.ret) (fun (o : (Int) ⊕ (Unit)) => match o with | .inl x16 => [(2, .v (.d (.int 0))), (3, .v (.d (.int 0))), (6, .box g7 [.d (.int x16)]), (20, .v (.d (.fn 53 [] [.fptr (yA.cells v2.1) 0, .fptr [yA.enc v10] 0])))] | .inr _ => [])) (fun st l h => cm st l h) ?_  hc l18
   refine KQ (by decide) (fun _ => rfl) ?_
   rintro a15 x16 out k4 e above low0 lw lp s hr ha hr0 hBB hl hf
   obtain ⟨e2, e3, e6, e20, -⟩ := hr0
   have r2 : s.raw 2 = some (.v (.d (.int 0))) := hr 2 _ rfl e2
   have r3 : s.raw 3 = some (.v (.d (.int 0))) := hr 3 _ rfl e3
   have r6 : s.raw 6 = some (.v (.ptr low.length 6 g7 0)) := hr 6 _ rfl e6
   have r20 : s.raw 20 = some (.v (.d (.fn 53 [] [.fptr (yA.cells v2.1) 0, .fptr [yA.enc v10] 0]))) := hr 20 _ rfl e20
   obtain ⟨r21, -⟩ := ha
   unfold Fq at k4
   replace k4 := kq k4
   refine Nx.run <| ⟨rfl, hl, ?_⟩
   intro s2 hraw hl
   replace r2 := (hraw 2).trans r2
   replace r3 := (hraw 3).trans r3
   replace r6 := (hraw 6).trans r6
   replace r20 := (hraw 20).trans r20
   replace r21 := (hraw 21).trans r21
   replace hf := yT.congr hf hraw
   clear hraw
   obtain ⟨s, hs⟩ : ∃ q, q = s2 := ⟨_, rfl⟩
   rw [← hs] at r2 r3 r6 r20 r21 hl hf
   rw [← hs]
   clear hs s2
   have hB := hBB
   obtain ⟨m2, m3, m6, m20, -⟩ := Jp.all hB
   have hlt : low.length < lw.length := by have := Jp.len hB; omega
   refine Nx.run <| ye <| regS (B := Jt) (low := lw) (Q := fun q => q = (Dh lw low.length 6 (.box g7 [.d (.int (W (x16 + 1)))]))) [] hl hf ?_ ?_
   ·simp only [rs, LM, JA, Hm, Oz, Oq, Kw, hl, yO hf, r2, r3, r6, r20, r21, m2, m3, m6, m20, hlt, (Xq (v := .int (W (x16 + 1)))), reduceCtorEq, Nat.reduceEqDiff, Nat.reduceAdd]
   rintro s - hl hf
   replace hl : s.low = (Dh lw low.length 6 (.box g7 [.d (.int (W (x16 + 1)))])) := hl
   replace hB := Jp.set (l' := [(2, .v (.d (.int 0))), (3, .v (.d (.int 0))), (6, .box g7 [.d (.int (W (x16 + 1)))]), (20, .v (.d (.fn 53 [] [.fptr (yA.cells v2.1) 0, .fptr [yA.enc v10] 0])))]) hB 6 _ rfl (fun s ⟨q2, q3, q6, q20, _⟩ => ⟨(by rw [Aj, if_neg (by decide)]; exact q2), (by rw [Aj, if_neg (by decide)]; exact q3), (by rw [Aj, if_pos rfl]), (by rw [Aj, if_neg (by decide)]; exact q20), trivial⟩)
   obtain ⟨lw, hlow⟩ : ∃ q, q = (Dh lw low.length 6 (.box g7 [.d (.int (W (x16 + 1)))])) := ⟨_, rfl⟩
   rw [← hlow] at hl hB
   obtain ⟨m2, m3, m6, m20, -⟩ := Jp.all hB
   have hlt : low.length < lw.length := by have := Jp.len hB; omega
   obtain rfl := oK k4
   exact ⟨rfl, rfl, by rw [hl]; exact W2 hB (fun s ⟨q2, q3, q6, q20, _⟩ => ⟨q2, q3, q6, q20, trivial⟩)⟩
  ·intro s hl hf hq
   rcases o17 with y19 | _
   ·try dsimp only at k5 hq
    obtain ⟨r2, r3, r6, r20, -⟩ := hq
    refine rZ <| Ra hl hf ?_
    rintro g20 s ⟨r2, r3, -⟩ hl hf
    cases oK k5
    exact ⟨Or.inr rfl, hl, Bf (AN r2) (AN r3)⟩
   ·cases k5
 refine Ra hl hf ?_
 rintro g21 s ⟨r2, r3, -⟩ hl hf
 cases oK k1
 exact ⟨Or.inr rfl, hl, Bf (AN r2) (AN r3)⟩
def Uc := fun a0 => Cq.mk (@ag a0)
end Go.Lf
