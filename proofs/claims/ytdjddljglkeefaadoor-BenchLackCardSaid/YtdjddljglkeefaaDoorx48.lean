/- A part of the proof. -/
import Derived.Test.YtdjddljglkeefaaDoorx20
import Derived.Test.YtdjddljglkeefaaDoorx22
import Derived.Test.YtdjddljglkeefaaDoorx47
set_option linter.all false
set_option maxHeartbeats 9999999
namespace Go.Lf
open Go
theorem Gy (a0 : (Sl (Ar 5 Int))) : Fin zL 73 [zI.enc a0] (.bool (F5 a0)) := by
 refine zU NS NW ?_
 rintro low s r hl hf
 refine Ra hl hf ?_
 rintro g1 s r hl hf
 refine Ra hl hf ?_
 rintro g2 s r hl hf
 exact ⟨Or.inr rfl, hl, AI (AK r.1)⟩
def dS := fun a0 => (Gy a0).call
theorem NF {low : List Fr} {a0 : (Sl (Sl (Ar 5 Int)))} {r : Int} (k0 : EK a0 = some r) : LL zL 87 [.d (zI.enc a0), .d (.fn 73 [] [])] low (.d (.int r)) := by
 unfold EK at k0; replace k0 := kq k0
 refine jH F4 Iu ?_
 rintro s r hl hf
 refine Ra hl hf ?_
 rintro g1 s r hl hf
 refine Ra hl hf ?_
 rintro g2 s r hl hf
 refine blk ?_
 obtain ⟨o5, l6, k1⟩ := bnk k0
 refine Ax (f := Ba a0) (E := fun (x : Int) s => B6 [E_ 0 a0, (1, .v (.d (.fn 73 [] []))), I_ 7 a0.len, I_ 8 x] s ∧ s.low = low ∧ NoB F4 s) (Q := fun (o : ((Int) ⊕ (Unit))) j s => match o with | .inl w4 => j = .ret ∧ FnJ Iu.1 low (.d (.int w4)) .ret s | .inr _ => j = .exit 0 ∧ B6 [] s ∧ s.low = low ∧ NoB F4 s) l6 ?_ ⟨r, hl, hf⟩ ?_
 ·rintro x3 s out ⟨r, hl, hf⟩ k2
  unfold Ba at k2
  refine Ra hl hf ?_
  rintro g7 s r hl hf
  refine DW r.2.2.2.2.1 k2 (fun c8 k2 => ?_) fun c8 k2 => ?_
  ·refine blk <| Ra hl hf ?_
   rintro g9 s r hl hf
   obtain ⟨v10, h11, k3⟩ := bnk k2
   obtain ⟨c12, hc12⟩ := Ie (LP := zL) (ds := [zI.enc v10]) (Gy v10); simp only [List.map_cons, List.map_nil] at hc12
   have q14 := @hc12
   refine Ra hl hf ?_
   rintro g13 s r hl hf
   refine DW r.2.2.2.2.2.1 k3 (fun c15 k3 => ?_) fun c15 k3 => ?_
   ·refine Ra hl hf ?_
    rintro g16 s r hl hf
    obtain rfl := oK k3
    exact ⟨by decide, ⟨rfl, ⟨Or.inr rfl, hl, AI (AK r.1)⟩⟩⟩
   refine Ra hl hf ?_
   rintro g17 s r hl hf
   obtain rfl := oK k3
   exact ⟨rfl, r, hl, hf⟩
  obtain rfl := oK k2
  exact ⟨by decide, ⟨rfl, trivial, hl, hf⟩⟩
 intro j s hq
 rcases o5 with w4 | _
 ·try dsimp only at k1 hq
  obtain ⟨rfl, hq⟩ := hq
  cases oK k1
  exact hq
 try dsimp only at k1 hq
 obtain ⟨rfl, -, hl, hf⟩ := hq
 refine Ra hl hf ?_
 rintro g18 s r hl hf
 cases oK k1
 exact ⟨Or.inr rfl, hl, AI (AK r.1)⟩
theorem Jw {low : List Fr} {a0 : (Sl (Sl (Ar 5 Int)))} {r : Bool} (k0 : DK a0 = some r) : LL zL 72 [.d (zI.enc a0), .d (.fn 73 [] [])] low (.d (.bool r)) := by
 unfold DK at k0; replace k0 := kq k0
 refine jH Lm Ln ?_
 rintro s r hl hf
 refine Ra hl hf ?_
 rintro g1 s r hl hf
 obtain ⟨v2, h3, k1⟩ := bnk k0
 have f4 : ∀ (e : Env) (c : Nat), (om zL).call 87 [.d (zI.enc a0), .d (.fn 73 [] [])] (low ++ [⟨e, none⟩]) c = some (.d (.int (v2)), low ++ [⟨e, none⟩], TL zL 87 [.d (zI.enc a0), .d (.fn 73 [] [])] (low ++ [⟨e, none⟩]) c) := fun e c => LL.om (NF h3) c
 have q6 := @f4
 refine Ra hl hf ?_
 rintro g5 s r hl hf
 cases oK k1
 exact ⟨Or.inr rfl, hl, AI (AK r.1)⟩
theorem PM {a0 : AA} {r : Bool} (k0 : DU a0 = some r) : Fin zL 50 [zI.enc a0] (.bool r) := by
 unfold DU at k0; replace k0 := kq k0
 refine zU QF Qm ?_
 rintro low s r hl hf
 refine Ra hl hf ?_
 rintro g1 s r hl hf
 obtain ⟨v2, h3, k1⟩ := bnk k0
 have q5 := LL.call (LP := zL) (ds := [zI.enc a0.truths, .fn 73 [] []]) (Jw h3)
 refine Ra hl hf ?_
 rintro g4 s r hl hf
 cases oK k1
 exact ⟨Or.inr rfl, hl, AI (AK r.1)⟩
def Jk := fun a0 => Cq.mk (@PM a0)
theorem ZV {a0 : VoiceBook} {r : (Bool × Int)} (k0 : GX a0 = some r) : Fin zL 13 [zI.enc a0] (zI.enc r) := by
 unfold GX at k0; replace k0 := kq k0
 refine zU cq cO ?_
 rintro low s r hl hf
 have q14 := @I8
 have q15 := @Jk
 refine Ra hl hf ?_
 rintro g1 s r hl hf
 obtain ⟨v2, h3, k1⟩ := bnk k0
 refine Ra hl hf ?_
 rintro g4 s r hl hf
 refine Ra hl hf ?_
 rintro g5 s r hl hf
 refine Kw r.2.2.1 k1 (fun c6 k1 => ?_) fun c6 k1 => ?_
 ·obtain ⟨v7, h8, k2⟩ := bnk k1
  obtain ⟨v9, h10, k3⟩ := bnk k2
  have q12 := Fin.call (LP := zL) (ds := [zI.enc a0, .nils]) (JV h8)
  refine Ra hl hf ?_
  rintro g11 s r hl hf
  cases oK k3
  exact ⟨Or.inr rfl, hl, BS (AK r.1) (AK r.2.1)⟩
 refine Ra hl hf ?_
 rintro g13 s r hl hf
 cases oK k1
 exact ⟨Or.inr rfl, hl, BS (AK r.1) (AK r.2.1)⟩
def NE := fun a0 => Cq.mk (@ZV a0)
theorem OD : Fin zL 64 [] (zI.enc (ge)) := by
 refine zU ZM Yu ?_
 rintro low s - hl hf
 have q2 := @V9
 refine Ra hl hf ?_
 rintro g1 s r hl hf
 have q4 := @IJ
 refine Ra hl hf ?_
 rintro g3 s r hl hf
 exact ⟨Or.inr rfl, hl, AI (Cj r.1 rfl)⟩
def rk := OD.call
theorem HD (a0 : Int) : Fin zL 82 [.int a0] (.bool (Jt a0)) := by
 refine zU TQ TM ?_
 rintro low s r hl hf
 refine Ra hl hf ?_
 rintro g1 s - hl hf
 refine Ra hl hf ?_
 rintro g2 s r hl hf
 exact ⟨Or.inr rfl, hl, AI (AK r.1)⟩
def nF := fun a0 => (HD a0).call
theorem ZY {a0 : VoiceBook} {a1 : Bool} {r : (AA × Int)} (k0 : DX a0 a1 = some r) : Fin zL 93 [zI.enc a0, .bool a1] (zI.enc r) := by
 unfold DX at k0; replace k0 := kq k0
 refine zU bZ cU ?_
 rintro low s r hl hf
 have q24 := @I8
 have q25 := @Jk
 have q2 := @OI
 refine Ra hl hf ?_
 rintro g1 s r hl hf
 obtain ⟨v3, h4, k1⟩ := bnk k0
 refine Ra hl hf ?_
 rintro g5 s r hl hf
 refine Ra hl hf ?_
 rintro g6 s r hl hf
 refine Kw r.2.2.2.2.1 k1 (fun c7 k1 => ?_) fun c7 k1 => ?_
 ·refine Ra hl hf ?_
  rintro g8 s r hl hf
  refine Kw r.2.2.1 k1 (fun c9 k1 => ?_) fun c9 k1 => ?_
  ·obtain ⟨v10, h11, k2⟩ := bnk k1
   have q13 := Fin.call (LP := zL) (ds := [zI.enc a0, .nils]) (JV h11)
   refine Ra hl hf ?_
   rintro g12 s r hl hf
   obtain ⟨v14, h15, k3⟩ := bnk k2
   refine Ra hl hf ?_
   rintro g16 s r hl hf
   refine Kw r.2.2.1 k3 (fun c17 k3 => ?_) fun c17 k3 => ?_
   ·refine Ra hl hf ?_
    rintro g18 s r hl hf
    cases oK k3
    exact ⟨Or.inr rfl, hl, BS (Cj r.1 rfl) (AK r.2.1)⟩
   refine Ra hl hf ?_
   rintro g19 s r hl hf
   cases oK k3
   exact ⟨Or.inr rfl, hl, BS (Cj r.1 rfl) (AK r.2.1)⟩
  have q21 := @SQ
  refine Ra hl hf ?_
  rintro g20 s r hl hf
  cases oK k1
  exact ⟨Or.inr rfl, hl, BS (Cj r.1 rfl) (AK r.2.1)⟩
 have q23 := @SQ
 refine Ra hl hf ?_
 rintro g22 s r hl hf
 cases oK k1
 exact ⟨Or.inr rfl, hl, BS (Cj r.1 rfl) (AK r.2.1)⟩
def cg := fun a0 a1 => Cq.mk (@ZY a0 a1)
theorem LU {a0 : AA} {a1 : Int} {a2 : (Ar 5 Int)} {a3 : Int} {r : Int} (k0 : GH a0 a1 a2 a3 = some r) : Fin zL 96 [zI.enc a0, .int a1, zI.enc a2, .int a3] (.int r) := by
 unfold GH at k0; replace k0 := kq k0
 refine zU NL NM ?_
 rintro low s r hl hf
 have q20 := @ME
 refine Ra hl hf ?_
 rintro g1 s r hl hf
 obtain ⟨v2, h3, k1⟩ := bnk k0
 obtain ⟨v4, h5, k2⟩ := bnk k1
 have q7 := EG h3
 have q8 := D3 h3 rfl rfl
 refine Ra hl hf ?_
 rintro g6 s r hl hf
 obtain ⟨v9, h10, k3⟩ := bnk k2
 obtain ⟨v11, h12, k4⟩ := bnk k3
 obtain ⟨v13, h14, k5⟩ := bnk k4
 have q16 := EG h10
 have q17 := D3 h10 rfl rfl
 have q18 := EG h12
 have q19 := D3 h12 rfl rfl
 refine Ra hl hf ?_
 rintro g15 s r hl hf
 cases oK k5
 exact ⟨Or.inr rfl, hl, AI (AK r.1)⟩
def oj := fun a0 a1 a2 a3 => Cq.mk (@LU a0 a1 a2 a3)
theorem K5 {a0 : AA} {a1 : Int} {a2 : (Ar 5 Int)} {a3 : Int} {a4 : Int} {r : Bool} (k0 : E1 a0 a1 a2 a3 a4 = some r) : Fin zL 92 [zI.enc a0, .int a1, zI.enc a2, .int a3, .int a4] (.bool r) := by
 unfold E1 at k0; replace k0 := kq k0
 refine zU NJ NH ?_
 rintro low s r hl hf
 have q22 := @EH
 refine Ra hl hf ?_
 rintro g1 s r hl hf
 obtain ⟨o11, q12, k1⟩ := bnk k0
 refine lb [B_ 10 o11] hl hf ?_ ?_
 ·by_cases c2 : (decide (Bm.key a2 = Bm.key (⟨[(-1), (-1), (-1), (-1), (-1)], rfl⟩ : (Ar 5 Int)))) = true
  ·rw [if_pos c2] at q12
   have e1 := oI q12
   simp only [rs, ps, JS, Jp, hl, nob hf, r, QN, c2, ← e1, reduceCtorEq, Nat.reduceEqDiff, Nat.reduceAdd]
  rw [if_neg c2] at q12
  have c2 := eq_false_of_ne_true c2
  obtain ⟨v3, h4, q19⟩ := bnd q12
  by_cases c5 : (decide (a3 < v3)) = true
  ·rw [if_pos c5] at q19
   obtain ⟨v6, h7, q20⟩ := bnd q19
   obtain ⟨v9, h10, q21⟩ := bnd q20
   have e1 := oI q21
   obtain ⟨c8, hc8⟩ := Ie (LP := zL) (ds := [zI.enc a0, .int a1, zI.enc a2, .int a3]) (LU h10); simp only [List.map_cons, List.map_nil] at hc8
   simp only [rs, ps, JS, Jp, hl, nob hf, r, QN, c2, (EG h4), (D3 h4 rfl rfl), c5, (EG h7), (D3 h7 rfl rfl), hc8, (Jo a4 v6 v9).call, ← e1, reduceCtorEq, Nat.reduceEqDiff, Nat.reduceAdd]
  rw [if_neg c5] at q19
  have c5 := eq_false_of_ne_true c5
  have e1 := oI q19
  simp only [rs, ps, JS, Jp, hl, nob hf, r, QN, c2, (EG h4), (D3 h4 rfl rfl), c5, ← e1, reduceCtorEq, Nat.reduceEqDiff, Nat.reduceAdd]
 rintro s r hl hf
 cases oK k1
 exact ⟨Or.inr rfl, hl, AI (AK r.1)⟩
def oe := fun a0 a1 a2 a3 a4 => Cq.mk (@K5 a0 a1 a2 a3 a4)
theorem QT {a0 : AA} {a1 : Int} {a2 : Int} {a3 : Int} {r : Ak} (k0 : En a0 a1 a2 a3 = some r) : Fin zL 94 [zI.enc a0, .int a1, .int a2, .int a3] (zI.enc r) := by
 unfold En at k0; replace k0 := kq k0
 refine zU HO Qy ?_
 rintro low s r hl hf
 have q2 := @am
 refine Ra hl hf ?_
 rintro g1 s r hl hf
 obtain ⟨v3, h4, k1⟩ := bnk k0
 have q6 := @VC
 refine Ra hl hf ?_
 rintro g5 s r hl hf
 have q8 := @KD
 have q9 := fun s ro => bw (n := 2) s ro a0.whole (Ad.mk a1 a2) (Sl.nil : (Sl (Ar 5 Int))) (.nils) rfl (by decide) rfl
 refine Ra hl hf ?_
 rintro g7 s r hl hf
 refine blk ?_
 obtain ⟨o13, l14, k2⟩ := bnk k1
 refine Ax (f := CJ a0 a1 a2 a3) (E := fun (x : Ak × Int) s => B6 [I_ 1 a1, I_ 2 a2, I_ 3 a3, C_ 4 g1 a0, C_ 8 (g1 + 1) (Ak.mk 0 0), C_ 9 (g5 + 1 + 1 + 1 + 1 + 1 + 1 + 1) x.1, E_ 24 ((Mp.get a0.whole (Bm.key (Ad.mk a1 a2))).getD (Sl.nil : (Sl (Ar 5 Int)))), I_ 25 (((Mp.get a0.whole (Bm.key (Ad.mk a1 a2))).getD (Sl.nil : (Sl (Ar 5 Int)))).len), I_ 26 x.2] s ∧ s.low = low ∧ NoB HO s) (Q := fun (y12 : Ak) j s => j = .exit 0 ∧ B6 [C_ 4 g1 a0, C_ 8 (g1 + 1) (Ak.mk 0 0), C_ 9 (g5 + 1 + 1 + 1 + 1 + 1 + 1 + 1) y12] s ∧ s.low = low ∧ NoB HO s) l14 ?_ ⟨r, hl, hf⟩ ?_
 ·rintro ⟨x10, x11⟩ s out ⟨r, hl, hf⟩ k3
  dsimp only at r
  simp only [CJ] at k3
  refine Ra hl hf ?_
  rintro g15 s r hl hf
  refine DW r.2.2.2.2.2.2.2.2.2.1 k3 (fun c16 k3 => ?_) fun c16 k3 => ?_
  ·refine blk ?_
   obtain ⟨v17, h18, k4⟩ := bnk k3
   refine Ra hl hf ?_
   rintro g19 s r hl hf
   obtain ⟨v21, h22, k5⟩ := bnk k4
   obtain ⟨c20, hc20⟩ := Ie (LP := zL) (ds := [zI.enc a0, .int a1, zI.enc v17, .int a2, .int a3]) (K5 h22); simp only [List.map_cons, List.map_nil] at hc20
   have q24 := @hc20
   refine Ra hl hf ?_
   rintro g23 s r hl hf
   refine DW r.2.2.2.2.2.2.2.2.2.1 k5 (fun zn k5 => ?_) fun zn k5 => ?_
   ·refine Ra hl hf ?_
    rintro g26 s r hl hf
    refine Ra hl hf ?_
    rintro g27 s r hl hf
    obtain rfl := oK k5
    exact ⟨rfl, r, hl, hf⟩
   refine Ra hl hf ?_
   rintro g28 s r hl hf
   obtain rfl := oK k5
   exact ⟨rfl, r, hl, hf⟩
  obtain rfl := oK k3
  exact ⟨by decide, ⟨rfl, ⟨r.2.2.2.1, r.2.2.2.2.1, r.2.2.2.2.2.1, trivial⟩, hl, hf⟩⟩
 intro j s hq
 obtain ⟨y12, rfl⟩ : ∃ x, x = o13 := ⟨_, rfl⟩
 try dsimp only at k2 hq
 obtain ⟨rfl, r, hl, hf⟩ := hq
 refine Ra hl hf ?_
 rintro g29 s r hl hf
 cases oK k2
 exact ⟨Or.inr rfl, hl, AI (Cj r.1 rfl)⟩
def SY := fun a0 a1 a2 a3 => Cq.mk (@QT a0 a1 a2 a3)
theorem JY (a0 : Ak) : Fin zL 113 [zI.enc a0] (.bool (GQ a0)) := by
 refine zU R2 Qv ?_
 rintro low s r hl hf
 refine Ra hl hf ?_
 rintro g1 s r hl hf
 refine Ra hl hf ?_
 rintro g2 s r hl hf
 exact ⟨Or.inr rfl, hl, AI (AK r.1)⟩
def RS := fun a0 => (JY a0).call
theorem JI (a0 : Ak) : Fin zL 114 [zI.enc a0] (.bool (GM a0)) := by
 refine zU Qu Q4 ?_
 rintro low s r hl hf
 refine Ra hl hf ?_
 rintro g1 s r hl hf
 refine Ra hl hf ?_
 rintro g2 s r hl hf
 exact ⟨Or.inr rfl, hl, AI (AK r.1)⟩
def m0 := fun a0 => (JI a0).call
theorem PP {a0 : Ak} {r : Int} (k0 : EL a0 = some r) : Fin zL 95 [zI.enc a0] (.int r) := by
 unfold EL at k0; replace k0 := kq k0
 refine zU GT P4 ?_
 rintro low s r hl hf
 have q23 := @RS
 refine Ra hl hf ?_
 rintro g1 s r hl hf
 refine Ra hl hf ?_
 rintro g2 s r hl hf
 have q4 := @uh
 refine Ra hl hf ?_
 rintro g3 s r hl hf
 refine blk ?_
 obtain ⟨o8, l9, k1⟩ := bnk k0
 refine Ax (f := A8 a0) (E := fun (x : Int × Int) s => B6 [C_ 1 g1 a0, I_ 3 x.1, (6, .v (.d (.agg [.fn 113 [] [], .fn 114 [] []]))), I_ 7 x.2] s ∧ s.low = low ∧ NoB GT s) (Q := fun (y7 : Int) j s => j = .exit 0 ∧ B6 [C_ 1 g1 a0, I_ 3 y7] s ∧ s.low = low ∧ NoB GT s) l9 ?_ ⟨r, hl, hf⟩ ?_
 ·rintro ⟨x5, x6⟩ s out ⟨r, hl, hf⟩ k2
  dsimp only at r
  simp only [A8] at k2
  refine Ra hl hf ?_
  rintro g10 s r hl hf
  refine DW r.2.2.2.2.1 k2 (fun c11 k2 => ?_) fun c11 k2 => ?_
  ·refine blk ?_
   obtain ⟨v12, h13, k3⟩ := bnk k2
   refine Ra hl hf ?_ (h := by intro c; simp only [(u5 (x := .fn 113 [] []) (y := .fn 114 [] []) h13), rt, ps, nob hf, *, reduceCtorEq, Nat.reduceEqDiff, Nat.reduceAdd, Nat.reduceMul] <;> rfl)
   rintro g14 s r hl hf
   refine lb [C_ 1 g1 a0, I_ 3 x5, (6, .v (.d (.agg [.fn 113 [] [], .fn 114 [] []]))), I_ 7 x6, B_ 12 (if v12 then (GM a0) else (GQ a0))] hl hf ?_ ?_
   ·cases c16 : v12
    ·simp only [rs, ps, uM, tg, hl, nob hf, r, c16, (JY a0).call, reduceCtorEq, Nat.reduceEqDiff, Nat.reduceAdd]
    simp only [rs, ps, uM, tg, hl, nob hf, r, c16, (JI a0).call, reduceCtorEq, Nat.reduceEqDiff, Nat.reduceAdd]
   rintro s r hl hf
   refine DW r.2.2.2.2.1 k3 (fun c18 k3 => ?_) fun c18 k3 => ?_
   ·refine Ra hl hf ?_
    rintro g19 s r hl hf
    refine Ra hl hf ?_
    rintro g20 s r hl hf
    obtain rfl := oK k3
    exact ⟨rfl, r, hl, hf⟩
   refine Ra hl hf ?_
   rintro g21 s r hl hf
   obtain rfl := oK k3
   exact ⟨rfl, r, hl, hf⟩
  obtain rfl := oK k2
  exact ⟨by decide, ⟨rfl, ⟨r.1, r.2.1, trivial⟩, hl, hf⟩⟩
 intro j s hq
 obtain ⟨y7, rfl⟩ : ∃ x, x = o8 := ⟨_, rfl⟩
 try dsimp only at k1 hq
 obtain ⟨rfl, r, hl, hf⟩ := hq
 refine Ra hl hf ?_
 rintro g22 s r hl hf
 cases oK k1
 exact ⟨Or.inr rfl, hl, AI (AK r.1)⟩
def P5 := fun a0 => Cq.mk (@PP a0)
theorem Yf {a0 : VoiceBook} {a1 : Int} {a2 : Int} {a3 : Int} {r : (Int × Int)} (k0 : JO a0 a1 a2 a3 = some r) : Fin zL 91 [zI.enc a0, .int a1, .int a2, .int a3] (zI.enc r) := by
 unfold JO at k0; replace k0 := kq k0
 refine zU a7 bW ?_
 rintro low s r hl hf
 have q22 := @cg
 have q23 := @SY
 have q24 := @Rr
 have q25 := @PZ
 have q26 := @Px
 have q27 := @P5
 refine Ra hl hf ?_
 rintro g1 s r hl hf
 obtain ⟨⟨o10, o11⟩, q, k1⟩ := bnk k0
 try dsimp only at k1
 refine Rq (fun g13 => [C_ 10 (g13 + 1 + 1 + 1 + 1 + 1 + 1 + 1 + 1 + 1 + 1 + 1 + 1 + 1 + 1 + 1 + 1 + 1) o10, I_ 11 o11]) hl hf q ?_
 rintro g13 s r hl hf
 refine Ra hl hf ?_
 rintro g14 s r hl hf
 refine Kw r.2.2.2.2.2.1 k1 (fun c15 k1 => ?_) fun c15 k1 => ?_
 ·obtain ⟨v16, h17, k2⟩ := bnk k1
  obtain ⟨v18, h19, k3⟩ := bnk k2
  refine Ra hl hf ?_
  rintro g20 s r hl hf
  cases oK k3
  exact ⟨Or.inr rfl, hl, BS (AK r.1) (AK r.2.1)⟩
 refine Ra hl hf ?_
 rintro g21 s r hl hf
 cases oK k1
 exact ⟨Or.inr rfl, hl, BS (AK r.1) (AK r.2.1)⟩
def dQ := fun a0 a1 a2 a3 => Cq.mk (@Yf a0 a1 a2 a3)
theorem JX {low : List Fr} {a0 : AC} {a1 : AL} {a2 : Int} {wja0 : Nat} {wta0 : Nat} {wga0 : Nat} (hwa0 : wja0 < low.length) {r : Bool} (k0 : C3 a0 a1 a2 = some r) : LL zL 81 [.agg (AC.lc a0 wja0 wta0 wga0), .d (zI.enc a1), .d (.int a2)] low (.d (.bool r)) := by
 unfold C3 at k0; replace k0 := kq k0
 refine jH Ij NG ?_
 rintro s r hl hf
 have q29 := @dQ
 have q2 := @Tc
 refine Ra hl hf ?_
 rintro g1 s r hl hf
 obtain ⟨v3, h4, k1⟩ := bnk k0
 have q6 := @Qc
 refine Ra hl hf ?_
 rintro g5 s r hl hf
 obtain ⟨v7, h8, k2⟩ := bnk k1
 refine Ra hl hf ?_
 rintro g9 s r hl hf
 refine Ra hl hf ?_
 rintro g10 s r hl hf
 refine blk ?_
 obtain ⟨o13, l14, k3⟩ := bnk k2
 refine Ax (f := CO a0 a2 v3 v7) (E := fun (x : Int) s => B6 [I_ 2 a2, (3, .box g1 (AC.lc a0 wja0 wta0 wga0)), C_ 7 (g5 + 1 + 1 + 1 + 1 + 1 + 1 + 1) v3, C_ 8 (g9 + 1 + 1 + 1 + 1 + 1 + 1 + 1) v7.Notes, I_ 31 (W ((W (v7.Notes.High - v7.Notes.Low)) + 1)), I_ 32 x] s ∧ s.low = low ∧ NoB Ij s) (Q := fun (o : ((Bool) ⊕ (Unit))) j s => match o with | .inl w12 => j = .ret ∧ FnJ NG.1 low (.d (.bool w12)) .ret s | .inr _ => j = .exit 0 ∧ B6 [(3, .box g1 (AC.lc a0 wja0 wta0 wga0)), C_ 7 (g5 + 1 + 1 + 1 + 1 + 1 + 1 + 1) v3, C_ 8 (g9 + 1 + 1 + 1 + 1 + 1 + 1 + 1) v7.Notes] s ∧ s.low = low ∧ NoB Ij s) l14 ?_ ⟨r, hl, hf⟩ ?_
 ·rintro x11 s out ⟨r, hl, hf⟩ k4
  unfold CO at k4
  refine Ra hl hf ?_
  rintro g15 s r hl hf
  refine DW r.2.2.2.2.2.2.1 k4 (fun c16 k4 => ?_) fun c16 k4 => ?_
  ·refine blk <| Ra hl hf ?_
   rintro g17 s r hl hf
   obtain ⟨v18, h19, k5⟩ := bnk k4
   have q21 := @OY
   refine Ra hl hf ?_
   rintro g20 s r hl hf
   refine Rx (fun g24 => [B_ 54 (if (decide (v18.2 = 0)) then (decide (v18.1 < 2)) else true)]) hl hf ?_
   rintro g24 s r hl hf
   refine DW r.2.2.2.2.2.2.1 k5 (fun zn k5 => ?_) fun zn k5 => ?_
   ·refine Ra hl hf ?_
    rintro g26 s r hl hf
    obtain rfl := oK k5
    exact ⟨by decide, ⟨rfl, ⟨Or.inr rfl, hl, AI (AK r.1)⟩⟩⟩
   refine Ra hl hf ?_
   rintro g27 s r hl hf
   obtain rfl := oK k5
   exact ⟨rfl, r, hl, hf⟩
  obtain rfl := oK k4
  exact ⟨by decide, ⟨rfl, ⟨r.2.1, r.2.2.1, r.2.2.2.1, trivial⟩, hl, hf⟩⟩
 intro j s hq
 rcases o13 with w12 | _
 ·try dsimp only at k3 hq
  obtain ⟨rfl, hq⟩ := hq
  cases oK k3
  exact hq
 try dsimp only at k3 hq
 obtain ⟨rfl, r, hl, hf⟩ := hq
 refine Ra hl hf ?_
 rintro g28 s r hl hf
 cases oK k3
 exact ⟨Or.inr rfl, hl, AI (AK r.1)⟩
theorem Tj {low : List Fr} {a0 : BenchBook} {r : AC} (k0 : IA a0 = some r) : LL zL 61 [.d (zI.enc a0), .d (.agg [.fn 82 [] []])] low (.d (zI.enc r)) := by
 unfold IA at k0; replace k0 := kq k0
 refine jH BH PX ?_
 rintro s r hl hf
 have q2 := @ky
 have q3 := @iU
 have q4 := @IW
 refine Ra hl hf ?_
 rintro g1 s r hl hf
 have q6 := @Fb
 have q7 := @Hj
 have q8 := @On
 have q9 := @Js
 have q10 := @IW
 have q11 := @pf
 refine Ra hl hf ?_ (h := by intro c; simp only [(Ta (n := 2) (AL.mk (-1) (-1)) rfl (by decide)), (Qx (LP := zL) (t := 13) (gm := c + 1) (key := (Bm.key (AL.mk (-1) (-1)))) (a := (Sl.nil : (Sl Int))) (vd := .nils) (hav := rfl)), rt, ps, nob hf, *, reduceCtorEq, Nat.reduceEqDiff, Nat.reduceAdd, Nat.reduceMul] <;> rfl)
 rintro g5 s r hl hf
 have q15 := @J5
 have q16 := @Ds
 refine Ra hl hf ?_
 rintro g14 s r hl hf
 refine Ra hl hf ?_
 rintro g17 s r hl hf
 refine blk ?_
 obtain ⟨o21, l22, k1⟩ := bnk k0
 refine Ax (f := Hh a0) (E := fun (x : (List (List Int × (Sl Int))) × Int) s => B6 [C_ 2 g1 a0, (3, .box (g1 + 1) [.d (.fn 82 [] [])]), C_ 4 (g1 + 1 + 1) (AC.mk (BenchBook.mk (VoiceBook.mk (Sl.nil : (Sl AO)) 0 (Sl.nil : (Sl AM))) (Sl.nil : (Sl AE)) 0) (Mp.nil : (Mp 2 (Sl Int)))), (5, .box (g5 + 1 + 1 + 1 + 1 + 1 + 1) (AC.lc (AC.mk a0 (Mp.nil : (Mp 2 (Sl Int)))) low.length 13 (g5 + 1))), (6, .v (.fn 81 [.agg (AC.lc (AC.mk a0 (Mp.nil : (Mp 2 (Sl Int)))) low.length 13 (g5 + 1))] [])), (13, .mapo (g5 + 1) 2 (Dj x.1)), E_ 20 a0.Pieces, I_ 21 a0.Pieces.len, I_ 22 x.2] s ∧ s.low = low ∧ NoB BH s) (Q := fun (y20 : (List (List Int × (Sl Int)))) j s => j = .exit 0 ∧ B6 [C_ 2 g1 a0, (3, .box (g1 + 1) [.d (.fn 82 [] [])]), C_ 4 (g1 + 1 + 1) (AC.mk (BenchBook.mk (VoiceBook.mk (Sl.nil : (Sl AO)) 0 (Sl.nil : (Sl AM))) (Sl.nil : (Sl AE)) 0) (Mp.nil : (Mp 2 (Sl Int)))), (5, .box (g5 + 1 + 1 + 1 + 1 + 1 + 1) (AC.lc (AC.mk a0 (Mp.nil : (Mp 2 (Sl Int)))) low.length 13 (g5 + 1))), (13, .mapo (g5 + 1) 2 (Dj y20))] s ∧ s.low = low ∧ NoB BH s) l22 ?_ ⟨r, hl, hf⟩ ?_
 ·rintro ⟨x18, x19⟩ s out ⟨r, hl, hf⟩ k2
  dsimp only at r
  simp only [Hh] at k2
  refine Ra hl hf ?_
  rintro g23 s r hl hf
  refine DW r.2.2.2.2.2.2.2.2.2.1 k2 (fun c24 k2 => ?_) fun c24 k2 => ?_
  ·refine blk ?_
   obtain ⟨v25, h26, k3⟩ := bnk k2
   refine Ra hl hf ?_
   rintro g27 s r hl hf
   refine Ra hl hf ?_
   rintro g28 s r hl hf
   refine blk ?_
   obtain ⟨o32, l33, k4⟩ := bnk k3
   refine Ax (f := HZ a0 x19 v25) (E := fun (x : (List (List Int × (Sl Int))) × Int) s => B6 [C_ 2 g1 a0, (3, .box (g1 + 1) [.d (.fn 82 [] [])]), C_ 4 (g1 + 1 + 1) (AC.mk (BenchBook.mk (VoiceBook.mk (Sl.nil : (Sl AO)) 0 (Sl.nil : (Sl AM))) (Sl.nil : (Sl AE)) 0) (Mp.nil : (Mp 2 (Sl Int)))), (5, .box (g5 + 1 + 1 + 1 + 1 + 1 + 1) (AC.lc (AC.mk a0 (Mp.nil : (Mp 2 (Sl Int)))) low.length 13 (g5 + 1))), (6, .v (.fn 81 [.agg (AC.lc (AC.mk a0 (Mp.nil : (Mp 2 (Sl Int)))) low.length 13 (g5 + 1))] [])), I_ 7 x19, (13, .mapo (g5 + 1) 2 (Dj x.1)), E_ 20 a0.Pieces, I_ 21 a0.Pieces.len, I_ 22 x19, I_ 29 v25.Parts.len, I_ 30 x.2] s ∧ s.low = low ∧ NoB BH s) (Q := fun (y31 : (List (List Int × (Sl Int)))) j s => j = .exit 2 ∧ B6 [C_ 2 g1 a0, (3, .box (g1 + 1) [.d (.fn 82 [] [])]), C_ 4 (g1 + 1 + 1) (AC.mk (BenchBook.mk (VoiceBook.mk (Sl.nil : (Sl AO)) 0 (Sl.nil : (Sl AM))) (Sl.nil : (Sl AE)) 0) (Mp.nil : (Mp 2 (Sl Int)))), (5, .box (g5 + 1 + 1 + 1 + 1 + 1 + 1) (AC.lc (AC.mk a0 (Mp.nil : (Mp 2 (Sl Int)))) low.length 13 (g5 + 1))), (6, .v (.fn 81 [.agg (AC.lc (AC.mk a0 (Mp.nil : (Mp 2 (Sl Int)))) low.length 13 (g5 + 1))] [])), (13, .mapo (g5 + 1) 2 (Dj y31)), E_ 20 a0.Pieces, I_ 21 a0.Pieces.len, I_ 22 x19] s ∧ s.low = low ∧ NoB BH s) l33 ?_ ⟨r, hl, hf⟩ ?_
   ·rintro ⟨x29, x30⟩ s out ⟨r, hl, hf⟩ k5
    dsimp only at r
    simp only [HZ] at k5
    refine Ra hl hf ?_
    rintro g34 s r hl hf
    refine DW r.2.2.2.2.2.2.2.2.2.2.2.2.1 k5 (fun c35 k5 => ?_) fun c35 k5 => ?_
    ·refine blk <| Ra hl hf ?_
     rintro g36 s r hl hf
     have q38 := @FC
     refine Ra hl hf ?_
     rintro g37 s r hl hf
     refine Ra hl hf ?_
     rintro g39 s r hl hf
     refine blk ?_
     obtain ⟨o43, l44, k6⟩ := bnk k5
     refine Ax (f := Ht a0 x19 x30) (E := fun (x : (List (List Int × (Sl Int))) × Int) s => B6 [C_ 2 g1 a0, (3, .box (g1 + 1) [.d (.fn 82 [] [])]), C_ 4 (g1 + 1 + 1) (AC.mk (BenchBook.mk (VoiceBook.mk (Sl.nil : (Sl AO)) 0 (Sl.nil : (Sl AM))) (Sl.nil : (Sl AE)) 0) (Mp.nil : (Mp 2 (Sl Int)))), (5, .box (g5 + 1 + 1 + 1 + 1 + 1 + 1) (AC.lc (AC.mk a0 (Mp.nil : (Mp 2 (Sl Int)))) low.length 13 (g5 + 1))), (6, .v (.fn 81 [.agg (AC.lc (AC.mk a0 (Mp.nil : (Mp 2 (Sl Int)))) low.length 13 (g5 + 1))] [])), I_ 7 x19, C_ 10 (g37 + 1 + 1 + 1) (AL.mk x19 x30), (13, .mapo (g5 + 1) 2 (Dj x.1)), E_ 20 a0.Pieces, I_ 21 a0.Pieces.len, I_ 22 x19, I_ 29 v25.Parts.len, I_ 30 x30, I_ 39 a0.Voice.Boys.len, I_ 40 x.2] s ∧ s.low = low ∧ NoB BH s) (Q := fun (y42 : (List (List Int × (Sl Int)))) j s => j = .exit 4 ∧ B6 [C_ 2 g1 a0, (3, .box (g1 + 1) [.d (.fn 82 [] [])]), C_ 4 (g1 + 1 + 1) (AC.mk (BenchBook.mk (VoiceBook.mk (Sl.nil : (Sl AO)) 0 (Sl.nil : (Sl AM))) (Sl.nil : (Sl AE)) 0) (Mp.nil : (Mp 2 (Sl Int)))), (5, .box (g5 + 1 + 1 + 1 + 1 + 1 + 1) (AC.lc (AC.mk a0 (Mp.nil : (Mp 2 (Sl Int)))) low.length 13 (g5 + 1))), (6, .v (.fn 81 [.agg (AC.lc (AC.mk a0 (Mp.nil : (Mp 2 (Sl Int)))) low.length 13 (g5 + 1))] [])), I_ 7 x19, C_ 10 (g37 + 1 + 1 + 1) (AL.mk x19 x30), (13, .mapo (g5 + 1) 2 (Dj y42)), E_ 20 a0.Pieces, I_ 21 a0.Pieces.len, I_ 22 x19, I_ 29 v25.Parts.len, I_ 30 x30] s ∧ s.low = low ∧ NoB BH s) l44 ?_ ⟨r, hl, hf⟩ ?_
     ·rintro ⟨x40, x41⟩ s out ⟨r, hl, hf⟩ k7
      dsimp only at r
      simp only [Ht] at k7
      refine Ra hl hf ?_
      rintro g45 s r hl hf
      refine DW r.2.2.2.2.2.2.2.2.2.2.2.2.2.2.2.1 k7 (fun c46 k7 => ?_) fun c46 k7 => ?_
      ·refine blk <| Ra hl hf ?_
       rintro g47 s r hl hf
       obtain ⟨o53, q54, k8⟩ := bnk k7
       refine lb [C_ 2 g1 a0, (3, .box (g1 + 1) [.d (.fn 82 [] [])]), C_ 4 (g1 + 1 + 1) (AC.mk (BenchBook.mk (VoiceBook.mk (Sl.nil : (Sl AO)) 0 (Sl.nil : (Sl AM))) (Sl.nil : (Sl AE)) 0) (Mp.nil : (Mp 2 (Sl Int)))), (5, .box (g5 + 1 + 1 + 1 + 1 + 1 + 1) (AC.lc (AC.mk a0 (Mp.nil : (Mp 2 (Sl Int)))) low.length 13 (g5 + 1))), (6, .v (.fn 81 [.agg (AC.lc (AC.mk a0 (Mp.nil : (Mp 2 (Sl Int)))) low.length 13 (g5 + 1))] [])), I_ 7 x19, C_ 10 (g37 + 1 + 1 + 1) (AL.mk x19 x30), I_ 11 x41, (13, .mapo (g5 + 1) 2 (Dj x40)), E_ 20 a0.Pieces, I_ 21 a0.Pieces.len, I_ 22 x19, I_ 29 v25.Parts.len, I_ 30 x30, I_ 39 a0.Voice.Boys.len, I_ 40 x41, B_ 53 o53] hl hf ?_ ?_
       ·by_cases zh : (Jt x41) = true
        ·rw [if_pos zh] at q54
         have e1 := oI q54
         obtain ⟨c48, hc48⟩ := Ie (LP := zL) (ds := [.int x41]) (HD x41); simp only [List.map_cons, List.map_nil] at hc48
         simp only [rs, ps, Be, G3, Ih, DI, hl, nob hf, r, hc48, zh, ← e1, reduceCtorEq, Nat.reduceEqDiff, Nat.reduceAdd]
        rw [if_neg zh] at q54
        have zh := eq_false_of_ne_true zh
        obtain ⟨v50, h51, q72⟩ := bnd q54
        have e1 := oI q72
        obtain ⟨c48, hc48⟩ := Ie (LP := zL) (ds := [.int x41]) (HD x41); simp only [List.map_cons, List.map_nil] at hc48
        have f52 : ∀ (e : Env) (c : Nat), (om zL).call 81 [.agg (AC.lc (AC.mk a0 (Mp.nil : (Mp 2 (Sl Int)))) low.length 13 (g5 + 1)), .d (zI.enc (AL.mk x19 x30)), .d (.int x41)] (low ++ [⟨e, none⟩]) c = some (.d (.bool (v50)), low ++ [⟨e, none⟩], TL zL 81 [.agg (AC.lc (AC.mk a0 (Mp.nil : (Mp 2 (Sl Int)))) low.length 13 (g5 + 1)), .d (zI.enc (AL.mk x19 x30)), .d (.int x41)] (low ++ [⟨e, none⟩]) c) := fun e c => LL.om (JX (by first | omega | (simp only [List.length_append, List.length_cons, List.length_nil]; omega)) h51) c
        simp only [rs, ps, Be, G3, Ih, DI, hl, nob hf, r, hc48, zh, f52, ← e1, reduceCtorEq, Nat.reduceEqDiff, Nat.reduceAdd]
       rintro s r hl hf
       refine DW r.2.2.2.2.2.2.2.2.2.2.2.2.2.2.2.2.1 k8 (fun c57 k8 => ?_) fun c57 k8 => ?_
       ·refine Ra hl hf ?_
        rintro g58 s r hl hf
        obtain rfl := oK k8
        exact ⟨rfl, r, hl, hf⟩
       obtain ⟨v59, h60, k9⟩ := bnk k8
       have q62 := @On
       have q63 := @Js
       have q64 := @JJ
       have q68 := E5 (sz := 1) (x := (NY (Sl.nil : (Sl Int)) x40 (Bm.key (AL.mk x19 x30)))) (y := (Sl.cold [x41] : Sl Int)) rfl rfl h60
       refine Ra hl hf ?_ (h := by intro c; simp only [(Ta (n := 2) (AL.mk x19 x30) rfl (by decide)), (Rl (LP := zL) (t := 13) (gm := g5 + 1) (key := (Bm.key (AL.mk x19 x30))) (es := x40) (z := (Sl.nil : (Sl Int))) (hz := rfl)), (bS (LP := zL) (a := (NY (Sl.nil : (Sl Int)) x40 (Bm.key (AL.mk x19 x30)))) (y := .d (.int (Gv x40 (Bm.key (AL.mk x19 x30)))))), (RO (LP := zL) (x := Sl.lv (Sl.spent (NY (Sl.nil : (Sl Int)) x40 (Bm.key (AL.mk x19 x30))))) (y := .int (Gv x40 (Bm.key (AL.mk x19 x30))))), (RR (LP := zL) (t := 13) (gm := g5 + 1) (key := (Bm.key (AL.mk x19 x30))) (es := x40) (z := (Sl.nil : (Sl Int))) (a := v59)), rt, ps, nob hf, *, reduceCtorEq, Nat.reduceEqDiff, Nat.reduceAdd, Nat.reduceMul] <;> rfl)
       rintro g61 s r hl hf
       refine Ra hl hf ?_
       rintro g71 s r hl hf
       obtain rfl := oK k9
       exact ⟨rfl, r, hl, hf⟩
      obtain rfl := oK k7
      exact ⟨by decide, ⟨rfl, ⟨r.1, r.2.1, r.2.2.1, r.2.2.2.1, r.2.2.2.2.1, r.2.2.2.2.2.1, r.2.2.2.2.2.2.1, r.2.2.2.2.2.2.2.1, r.2.2.2.2.2.2.2.2.1, r.2.2.2.2.2.2.2.2.2.1, r.2.2.2.2.2.2.2.2.2.2.1, r.2.2.2.2.2.2.2.2.2.2.2.1, r.2.2.2.2.2.2.2.2.2.2.2.2.1, trivial⟩, hl, hf⟩⟩
     intro j s hq
     obtain ⟨y42, rfl⟩ : ∃ x, x = o43 := ⟨_, rfl⟩
     try dsimp only at k6 hq
     obtain ⟨rfl, r, hl, hf⟩ := hq
     refine Ra hl hf ?_
     rintro g73 s r hl hf
     obtain rfl := oK k6
     exact ⟨rfl, r, hl, hf⟩
    obtain rfl := oK k5
    exact ⟨by decide, ⟨rfl, ⟨r.1, r.2.1, r.2.2.1, r.2.2.2.1, r.2.2.2.2.1, r.2.2.2.2.2.2.1, r.2.2.2.2.2.2.2.1, r.2.2.2.2.2.2.2.2.1, r.2.2.2.2.2.2.2.2.2.1, trivial⟩, hl, hf⟩⟩
   intro j s hq
   obtain ⟨y31, rfl⟩ : ∃ x, x = o32 := ⟨_, rfl⟩
   try dsimp only at k4 hq
   obtain ⟨rfl, r, hl, hf⟩ := hq
   refine Ra hl hf ?_
   rintro g74 s r hl hf
   obtain rfl := oK k4
   exact ⟨rfl, r, hl, hf⟩
  obtain rfl := oK k2
  exact ⟨by decide, ⟨rfl, ⟨r.1, r.2.1, r.2.2.1, r.2.2.2.1, r.2.2.2.2.2.1, trivial⟩, hl, hf⟩⟩
 intro j s hq
 obtain ⟨y20, rfl⟩ : ∃ x, x = o21 := ⟨_, rfl⟩
 try dsimp only at k1 hq
 obtain ⟨rfl, r, hl, hf⟩ := hq
 have q76 := @Fb
 have q77 := @Hj
 have q78 := @Ds
 refine Ra hl hf ?_
 rintro g75 s r hl hf
 cases oK k1
 exact ⟨Or.inr rfl, hl, AI (LE (by rw [hl]; exact r.1) r.2.1)⟩
theorem Yt {a0 : BenchBook} {a1 : Bool} {r : (AC × Int)} (k0 : Bc a0 a1 = some r) : Fin zL 45 [zI.enc a0, .bool a1] (zI.enc r) := by
 unfold Bc at k0; replace k0 := kq k0
 refine zU cE bq ?_
 rintro low s r hl hf
 have q26 := @RN
 have q27 := @NE
 have q2 := @IW
 refine Ra hl hf ?_
 rintro g1 s r hl hf
 obtain ⟨v3, h4, k1⟩ := bnk k0
 refine Ra hl hf ?_
 rintro g5 s r hl hf
 refine Ra hl hf ?_
 rintro g6 s r hl hf
 refine Kw r.2.2.2.2.1 k1 (fun c7 k1 => ?_) fun c7 k1 => ?_
 ·refine Ra hl hf ?_
  rintro g8 s r hl hf
  refine Kw r.2.2.1 k1 (fun c9 k1 => ?_) fun c9 k1 => ?_
  ·obtain ⟨v10, h11, k2⟩ := bnk k1
   refine Ra hl hf ?_
   rintro g12 s r hl hf
   refine Ra hl hf ?_
   rintro g13 s r hl hf
   refine Kw r.2.2.1 k2 (fun c14 k2 => ?_) fun c14 k2 => ?_
   ·obtain ⟨v15, h16, k3⟩ := bnk k2
    have q18 := Fin.call (LP := zL) (n := 64) (ds := []) (v := .agg [.fn 82 [] []]) (OD)
    have q19 := LL.call (LP := zL) (ds := [zI.enc a0, .agg [.fn 82 [] []]]) (Tj h16)
    refine Ra hl hf ?_
    rintro g17 s r hl hf
    cases oK k3
    exact ⟨Or.inr rfl, hl, BS (Cj r.1 rfl) (AK r.2.1)⟩
   have q21 := @MK
   refine Ra hl hf ?_
   rintro g20 s r hl hf
   cases oK k2
   exact ⟨Or.inr rfl, hl, BS (Cj r.1 rfl) (AK r.2.1)⟩
  have q23 := @MK
  refine Ra hl hf ?_
  rintro g22 s r hl hf
  cases oK k1
  exact ⟨Or.inr rfl, hl, BS (Cj r.1 rfl) (AK r.2.1)⟩
 have q25 := @MK
 refine Ra hl hf ?_
 rintro g24 s r hl hf
 cases oK k1
 exact ⟨Or.inr rfl, hl, BS (Cj r.1 rfl) (AK r.2.1)⟩
def Dy := fun a0 a1 => Cq.mk (@Yt a0 a1)
theorem QX {a0 : AC} {a1 : (Sl Int)} {a2 : Int} {r : (Sl AH)} (k0 : Bi a0 a1 a2 = some r) : Fin zL 47 [zI.enc a0, zI.enc a1, .int a2] (zI.enc r) := by
 unfold Bi at k0; replace k0 := kq k0
 refine zU Dz RY ?_
 rintro low s r hl hf
 refine Ra hl hf ?_
 rintro g1 s r hl hf
 refine Ra hl hf ?_
 rintro g2 s r hl hf
 refine Ra hl hf ?_
 rintro g3 s r hl hf
 refine blk ?_
 obtain ⟨o7, l8, k1⟩ := bnk k0
 refine Ax (f := CH a0 a1 a2) (E := fun (x : (Sl AH) × Int) s => B6 [I_ 2 a2, C_ 3 g1 a0, (7, .v (Sl.lv x.1)), E_ 12 a1, I_ 13 a1.len, I_ 14 x.2] s ∧ s.low = low ∧ NoB Dz s) (Q := fun (y6 : (Sl AH)) j s => j = .exit 0 ∧ B6 [C_ 3 g1 a0, (7, .v (Sl.lv y6))] s ∧ s.low = low ∧ NoB Dz s) l8 ?_ ⟨r, hl, hf⟩ ?_
 ·rintro ⟨x4, x5⟩ s out ⟨r, hl, hf⟩ k2
  dsimp only at r
  simp only [CH] at k2
  refine Ra hl hf ?_
  rintro g9 s r hl hf
  refine DW r.2.2.2.2.2.2.1 k2 (fun c10 k2 => ?_) fun c10 k2 => ?_
  ·refine blk ?_
   obtain ⟨v11, h12, k3⟩ := bnk k2
   refine Ra hl hf ?_
   rintro g13 s r hl hf
   obtain ⟨v14, h15, k4⟩ := bnk k3
   obtain ⟨v16, h17, k5⟩ := bnk k4
   have q19 := @V3
   have q20 := kM (sz := 3) rfl h17
   refine Ra hl hf ?_
   rintro g18 s r hl hf
   refine blk ?_
   obtain ⟨o24, l25, k6⟩ := bnk k5
   refine Ax (f := CP v11 v16) (E := fun (x : (Sl AH) × Int) s => B6 [I_ 2 a2, C_ 3 g1 a0, (7, .v (Sl.lv x.1)), I_ 9 v11, E_ 12 a1, I_ 13 a1.len, I_ 14 x5, E_ 35 v16, I_ 36 v16.len, I_ 37 x.2] s ∧ s.low = low ∧ NoB Dz s) (Q := fun (y23 : (Sl AH)) j s => j = .exit 2 ∧ B6 [I_ 2 a2, C_ 3 g1 a0, (7, .v (Sl.lv y23)), E_ 12 a1, I_ 13 a1.len, I_ 14 x5] s ∧ s.low = low ∧ NoB Dz s) l25 ?_ ⟨r, hl, hf⟩ ?_
   ·rintro ⟨x21, x22⟩ s out ⟨r, hl, hf⟩ k7
    dsimp only at r
    simp only [CP] at k7
    refine Ra hl hf ?_
    rintro g26 s r hl hf
    refine DW r.2.2.2.2.2.2.2.2.2.2.1 k7 (fun c27 k7 => ?_) fun c27 k7 => ?_
    ·refine blk ?_
     obtain ⟨v28, h29, k8⟩ := bnk k7
     refine Ra hl hf ?_
     rintro g30 s r hl hf
     obtain ⟨v31, h32, k9⟩ := bnk k8
     have q34 := @FC
     have q35 := E5 (sz := 4) (x := x21) (y := (Sl.cold [(AH.mk (AL.mk v11 x22) v28.Many 0)] : Sl AH)) rfl rfl h32
     refine Ra hl hf ?_
     rintro g33 s r hl hf
     refine Ra hl hf ?_
     rintro g36 s r hl hf
     obtain rfl := oK k9
     exact ⟨rfl, r, hl, hf⟩
    obtain rfl := oK k7
    exact ⟨by decide, ⟨rfl, ⟨r.1, r.2.1, r.2.2.1, r.2.2.2.2.1, r.2.2.2.2.2.1, r.2.2.2.2.2.2.1, trivial⟩, hl, hf⟩⟩
   intro j s hq
   obtain ⟨y23, rfl⟩ : ∃ x, x = o24 := ⟨_, rfl⟩
   try dsimp only at k6 hq
   obtain ⟨rfl, r, hl, hf⟩ := hq
   refine Ra hl hf ?_
   rintro g37 s r hl hf
   obtain rfl := oK k6
   exact ⟨rfl, r, hl, hf⟩
  obtain rfl := oK k2
  exact ⟨by decide, ⟨rfl, ⟨r.2.1, r.2.2.1, trivial⟩, hl, hf⟩⟩
 intro j s hq
 obtain ⟨y6, rfl⟩ : ∃ x, x = o7 := ⟨_, rfl⟩
 try dsimp only at k1 hq
 obtain ⟨rfl, r, hl, hf⟩ := hq
 refine Ra hl hf ?_
 rintro g38 s r hl hf
 cases oK k1
 exact ⟨Or.inr rfl, hl, AI (Ob r.1)⟩
def Dt := fun a0 a1 a2 => Cq.mk (@QX a0 a1 a2)
theorem Hw {low : List Fr} (a0 : AC) (a1 : (Sl AH)) : LL zL 46 [.d (zI.enc a0), .d (zI.enc a1)] low (.d (.fn 65 [] [.fptr (zI.cells a0) 0, .fptr [zI.enc a1] 0])) := by
 refine jH Uy VD ?_
 rintro s r hl hf
 refine Ra hl hf ?_
 rintro g1 s r hl hf
 refine Ra hl hf ?_
 rintro g2 s r hl hf
 exact ⟨Or.inr rfl, hl, rI (by simp only [eV, r, Fe, IY, Oa, hl]; simp only [xC, yN, t8, tc, Zo, fp, lR, lD, eG, aW, be, Rm, SA, Qq, Vf, mm, O6, aP, SX, Option.map_some, Option.map_none, AA.lc, AC.lc, fb (show Env.get 2 s.env = _ from r.1), fb (show Env.get 3 s.env = _ from r.2.1)])⟩
theorem Iz : Fin zL 69 [] (zI.enc (B5)) := by
 refine zU fE gf ?_
 rintro low s - hl hf
 have q2 := @X8
 refine Ra hl hf ?_
 rintro g1 s r hl hf
 have q4 := @X8
 refine Ra hl hf ?_
 rintro g3 s r hl hf
 refine Ra hl hf ?_
 rintro g5 s r hl hf
 exact ⟨Or.inr rfl, hl, AI (Cj r.1 rfl)⟩
def eP := Iz.call
theorem I2 {low : List Fr} (a0 : AB) (a1x : AH) (a2x : Int) {pja1 : Nat} {pta1 : Nat} {pga1 : Nat} {pja2 : Nat} {pta2 : Nat} {pga2 : Nat} (ba1 : IH low pja1 pta1 = some (.box pga1 ((zI.cells a1x).map LV.d))) (ba2 : IH low pja2 pta2 = some (.box pga2 [.d (.int a2x)])) : LL zL 68 [.d (zI.enc a0), .ptr pja1 pta1 pga1 0, .ptr pja2 pta2 pga2 0] low (.d (.bool (CU a0 a1x a2x))) := by
 refine jH KL KO ?_
 rintro s r hl hf
 refine Ra hl hf ?_
 rintro g1 s r hl hf
 have q5 := Ef ba1
 have q6 := Ef ba2
 refine Rx (fun g4 => [B_ 4 ((decide (a0.Piece = a1x.at_.piece)) && (decide (a0.Boy = a2x)))]) hl hf ?_
 rintro g4 s r hl hf
 exact ⟨Or.inr rfl, hl, AI (AK r.1)⟩
theorem OK {low : List Fr} {a0 : (Sl AB)} {a1c0x : AH} {a1c1x : Int} {pja1c0 : Nat} {pta1c0 : Nat} {pga1c0 : Nat} {pja1c1 : Nat} {pta1c1 : Nat} {pga1c1 : Nat} (ba1c0 : IH low pja1c0 pta1c0 = some (.box pga1c0 ((zI.cells a1c0x).map LV.d))) (ba1c1 : IH low pja1c1 pta1c1 = some (.box pga1c1 [.d (.int a1c1x)])) {r : Int} (k0 : E9 a0 a1c0x a1c1x = some r) : LL zL 83 [.d (zI.enc a0), .fn 68 [] [.ptr pja1c0 pta1c0 pga1c0 0, .ptr pja1c1 pta1c1 pga1c1 0]] low (.d (.int r)) := by
 unfold E9 at k0; replace k0 := kq k0
 refine jH HC J2 ?_
 rintro s r hl hf
 refine Ra hl hf ?_
 rintro g1 s r hl hf
 refine Ra hl hf ?_
 rintro g2 s r hl hf
 refine blk ?_
 obtain ⟨o5, l6, k1⟩ := bnk k0
 refine Ax (f := BJ a0 a1c0x a1c1x) (E := fun (x : Int) s => B6 [E_ 0 a0, (1, .v (.fn 68 [] [.ptr pja1c0 pta1c0 pga1c0 0, .ptr pja1c1 pta1c1 pga1c1 0])), I_ 7 a0.len, I_ 8 x] s ∧ s.low = low ∧ NoB HC s) (Q := fun (o : ((Int) ⊕ (Unit))) j s => match o with | .inl w4 => j = .ret ∧ FnJ J2.1 low (.d (.int w4)) .ret s | .inr _ => j = .exit 0 ∧ B6 [] s ∧ s.low = low ∧ NoB HC s) l6 ?_ ⟨r, hl, hf⟩ ?_
 ·rintro x3 s out ⟨r, hl, hf⟩ k2
  unfold BJ at k2
  refine Ra hl hf ?_
  rintro g7 s r hl hf
  refine DW r.2.2.2.2.1 k2 (fun c8 k2 => ?_) fun c8 k2 => ?_
  ·refine blk <| Ra hl hf ?_
   rintro g9 s r hl hf
   obtain ⟨v10, h11, k3⟩ := bnk k2
   have f12 : ∀ (e : Env) (c : Nat), (om zL).call 68 [.d (zI.enc v10), .ptr pja1c0 pta1c0 pga1c0 0, .ptr pja1c1 pta1c1 pga1c1 0] (low ++ [⟨e, none⟩]) c = some (.d (.bool ((CU v10 a1c0x a1c1x))), low ++ [⟨e, none⟩], TL zL 68 [.d (zI.enc v10), .ptr pja1c0 pta1c0 pga1c0 0, .ptr pja1c1 pta1c1 pga1c1 0] (low ++ [⟨e, none⟩]) c) := fun e c => LL.om (I2 v10 a1c0x a1c1x (HI ba1c0) (HI ba1c1)) c
   have q14 := @f12
   refine Ra hl hf ?_
   rintro g13 s r hl hf
   refine DW r.2.2.2.2.2.1 k3 (fun c15 k3 => ?_) fun c15 k3 => ?_
   ·refine Ra hl hf ?_
    rintro g16 s r hl hf
    obtain rfl := oK k3
    exact ⟨by decide, ⟨rfl, ⟨Or.inr rfl, hl, AI (AK r.1)⟩⟩⟩
   refine Ra hl hf ?_
   rintro g17 s r hl hf
   obtain rfl := oK k3
   exact ⟨rfl, r, hl, hf⟩
  obtain rfl := oK k2
  exact ⟨by decide, ⟨rfl, trivial, hl, hf⟩⟩
 intro j s hq
 rcases o5 with w4 | _
 ·try dsimp only at k1 hq
  obtain ⟨rfl, hq⟩ := hq
  cases oK k1
  exact hq
 try dsimp only at k1 hq
 obtain ⟨rfl, -, hl, hf⟩ := hq
 refine Ra hl hf ?_
 rintro g18 s r hl hf
 cases oK k1
 exact ⟨Or.inr rfl, hl, AI (AK r.1)⟩
theorem ES {low : List Fr} {a0 : (Sl AB)} {a1c0x : AH} {a1c1x : Int} {pja1c0 : Nat} {pta1c0 : Nat} {pga1c0 : Nat} {pja1c1 : Nat} {pta1c1 : Nat} {pga1c1 : Nat} (ba1c0 : IH low pja1c0 pta1c0 = some (.box pga1c0 ((zI.cells a1c0x).map LV.d))) (ba1c1 : IH low pja1c1 pta1c1 = some (.box pga1c1 [.d (.int a1c1x)])) {r : Bool} (k0 : Bn a0 a1c0x a1c1x = some r) : LL zL 67 [.d (zI.enc a0), .fn 68 [] [.ptr pja1c0 pta1c0 pga1c0 0, .ptr pja1c1 pta1c1 pga1c1 0]] low (.d (.bool r)) := by
 unfold Bn at k0; replace k0 := kq k0
 refine jH N8 Oc ?_
 rintro s r hl hf
 refine Ra hl hf ?_
 rintro g1 s r hl hf
 obtain ⟨v2, h3, k1⟩ := bnk k0
 have f4 : ∀ (e : Env) (c : Nat), (om zL).call 83 [.d (zI.enc a0), .fn 68 [] [.ptr pja1c0 pta1c0 pga1c0 0, .ptr pja1c1 pta1c1 pga1c1 0]] (low ++ [⟨e, none⟩]) c = some (.d (.int (v2)), low ++ [⟨e, none⟩], TL zL 83 [.d (zI.enc a0), .fn 68 [] [.ptr pja1c0 pta1c0 pga1c0 0, .ptr pja1c1 pta1c1 pga1c1 0]] (low ++ [⟨e, none⟩]) c) := fun e c => LL.om (OK (HI ba1c0) (HI ba1c1) h3) c
 have q6 := @f4
 refine Ra hl hf ?_
 rintro g5 s r hl hf
 cases oK k1
 exact ⟨Or.inr rfl, hl, AI (AK r.1)⟩
theorem KQ {σ : Type} {yf : (Sl AB) → σ → Option (Bool × σ)} (n : Nat) : ∀ (R : σ → List Fr → Prop) (N : Nat), (∀ s low, R s low → low.length = N) → ∀ (yj yg : Nat), HS zL R yj yg (fun (x : (Sl AB)) => [.d (zI.enc x)]) yf → ∀ (a0 : (Sl AB)) (a1 : (Sl AH)) (a2 : (Ar 24 Int)) (a5 : AC) (pja3 : Nat) (pta3 : Nat) (pga3 : Nat) (pja4 : Nat) (pta4 : Nat) (pga4 : Nat), (∀ st low, R st low → IH low pja3 pta3 = some (.box pga3 [.yield yj yg])) → (∀ st low, R st low → IH low pja4 pta4 = some (.box pga4 [.fn 66 [] [.ptr pja3 pta3 pga3 0, .ptr pja4 pta4 pga4 0, .d (.fptr (zI.cells a5) 0)]])) → ∀ (low : List Fr) (st : σ), R st low → ∀ r : Bool × σ, Ac yf n a0 a1 a2 a5 st = some r → mC zL 66 [.d (zI.enc a0), .d (zI.enc a1), .d (zI.enc a2), .ptr pja3 pta3 pga3 0, .ptr pja4 pta4 pga4 0, .d (.fptr (zI.cells a5) 0)] R low (.d (.bool r.1)) r.2 := by
 induction n with
 | zero => intro R N hN yj yg hy a0 a1 a2 a5 pja3 pta3 pga3 pja4 pta4 pga4 ba3S ba4S low st hR r k0; simp [Ac] at k0
 | succ n ih =>
  intro R N hN yj yg hy a0 a1 a2 a5 pja3 pta3 pga3 pja4 pta4 pga4 ba3S ba4S low st hR r k0
  simp only [Ac] at k0; replace k0 := kq k0
  refine xR Bf HV ?_
  rintro s r hl hf
  have q80 := @eP
  have hlN : low.length = N := hN _ _ hR
  have ba3 := ba3S _ _ hR
  have ba4 := ba4S _ _ hR
  refine Ra hl hf ?_
  rintro g1 s r hl hf
  refine Ra hl hf ?_
  rintro g2 s r hl hf
  refine DW r.2.2.2.2.2.2.1 k0 (fun c3 k0 => ?_) fun c3 k0 => ?_
  ·obtain ⟨⟨v4, t5⟩, h6, k1⟩ := bnk k0
   dsimp only at k1
   refine regS (B := Bf) (low := low) (Q := R t5) [B_ 9 v4] hl hf ?_ ?_
   ·have f7 : ∀ (fr : Fr) (c : Nat), (om zL).round yj yg [.d (zI.enc a0)] (low ++ [fr]) c = some (v4, ov zL yj yg [.d (zI.enc a0)] (low ++ [fr]) c ++ [fr], wP zL yj yg [.d (zI.enc a0)] (low ++ [fr]) c) ∧ R t5 (ov zL yj yg [.d (zI.enc a0)] (low ++ [fr]) c) ∧ (ov zL yj yg [.d (zI.enc a0)] (low ++ [fr]) c).length = low.length := fun fr c => hy.om hN hR h6 fr c
    simp only [rs, lm, DI, hl, nob hf, hlN, r, (Ef ba3), (fun fr c => (f7 fr c).1), (fun fr c => (f7 fr c).2.1), (fun fr c => (f7 fr c).2.2), reduceCtorEq, Nat.reduceEqDiff, Nat.reduceAdd]
   rintro s r hR0 hf
   obtain ⟨low, hl⟩ : ∃ l, s.low = l := ⟨_, rfl⟩
   rw [hl] at hR0
   have hR := hR0
   have hlN : low.length = N := hN _ _ hR
   have ba3 := ba3S _ _ hR
   have ba4 := ba4S _ _ hR
   cases oK k1
   exact ⟨Or.inr rfl, (by rw [hl]; exact hR), AI (AK r.1)⟩
  obtain ⟨v8, h9, k2⟩ := bnk k0
  refine Ra hl hf ?_
  rintro g10 s r hl hf
  refine DW r.2.2.2.2.2.1 k2 (fun c11 k2 => ?_) fun c11 k2 => ?_
  ·obtain ⟨v12, h13, k3⟩ := bnk k2
   obtain ⟨⟨v14, t15⟩, h16, k4⟩ := bnk k3
   dsimp only at k4
   refine regS (B := Bf) (low := low) (Q := R t15) [B_ 9 v14] hl hf ?_ ?_
   ·have f17 : ∀ (e : Env) (c : Nat), (om zL).call 66 [.d (zI.enc a0), .d (zI.enc v12), .d (zI.enc a2), .ptr pja3 pta3 pga3 0, .ptr pja4 pta4 pga4 0, .d (.fptr (zI.cells a5) 0)] (low ++ [⟨e, none⟩]) c = some (.d (.bool v14), aJ zL 66 [.d (zI.enc a0), .d (zI.enc v12), .d (zI.enc a2), .ptr pja3 pta3 pga3 0, .ptr pja4 pta4 pga4 0, .d (.fptr (zI.cells a5) 0)] (low ++ [⟨e, none⟩]) c ++ [⟨e, none⟩], TL zL 66 [.d (zI.enc a0), .d (zI.enc v12), .d (zI.enc a2), .ptr pja3 pta3 pga3 0, .ptr pja4 pta4 pga4 0, .d (.fptr (zI.cells a5) 0)] (low ++ [⟨e, none⟩]) c) ∧ R t15 (aJ zL 66 [.d (zI.enc a0), .d (zI.enc v12), .d (zI.enc a2), .ptr pja3 pta3 pga3 0, .ptr pja4 pta4 pga4 0, .d (.fptr (zI.cells a5) 0)] (low ++ [⟨e, none⟩]) c) ∧ (aJ zL 66 [.d (zI.enc a0), .d (zI.enc v12), .d (zI.enc a2), .ptr pja3 pta3 pga3 0, .ptr pja4 pta4 pga4 0, .d (.fptr (zI.cells a5) 0)] (low ++ [⟨e, none⟩]) c).length = low.length := fun e c => mC.om hN hR (ih (ri R ⟨e, none⟩) (N + 1) (SZ hN _) yj yg (hy.push _) a0 v12 a2 a5 _ _ _ _ _ _ (Gn ba3S _) (Gn ba4S _) _ _ ⟨low, rfl, hR⟩ _ h16) c
    simp only [rs, ps, G3, Ih, DI, hl, nob hf, hlN, r, (Ef ba4), (mQ (sz := 4) rfl h13), (fun e c => (f17 e c).1), (fun e c => (f17 e c).2.1), (fun e c => (f17 e c).2.2), reduceCtorEq, Nat.reduceEqDiff, Nat.reduceAdd]
   rintro s r hR0 hf
   obtain ⟨low, hl⟩ : ∃ l, s.low = l := ⟨_, rfl⟩
   rw [hl] at hR0
   have hR := hR0
   have hlN : low.length = N := hN _ _ hR
   have ba3 := ba3S _ _ hR
   have ba4 := ba4S _ _ hR
   cases oK k4
   exact ⟨Or.inr rfl, (by rw [hl]; exact hR), AI (AK r.1)⟩
  obtain ⟨v18, h19, k5⟩ := bnk k2
  try clear h9
  refine Ra hl hf ?_
  rintro g20 s r hl hf
  have q22 := fun s ro => bw (n := 2) s ro a5.able v18.at_ (Sl.nil : (Sl Int)) (.nils) rfl (by decide) rfl
  refine Ra hl hf ?_
  rintro g21 s r hl hf
  refine Ra hl hf ?_
  rintro g23 s r hl hf
  refine blk ?_
  obtain ⟨o28, l29, k6⟩ := bnk k5
  refine Ax (f := Av (Ac yf n) a0 a1 a2 a5 v18) (E := fun (x : σ × Int) s => B6 [E_ 0 a0, E_ 1 a1, (4, .v (.ptr pja4 pta4 pga4 0)), (5, .v (.d (.fptr (zI.cells a5) 0))), C_ 8 g1 a2, C_ 10 (g20 + 1 + 1 + 1 + 1 + 1) v18, I_ 11 a0.len, E_ 12 ((Mp.get a5.able (Bm.key v18.at_)).getD (Sl.nil : (Sl Int))), I_ 13 x.2] s ∧ R x.1 s.low ∧ NoB Bf s) (Q := fun (o : ((Bool × σ) ⊕ (σ))) j s => match o with | .inl w26 => j = .ret ∧ xY HV.1 R w26.2 (.d (.bool w26.1)) .ret s | .inr y27 => j = .exit 0 ∧ B6 [C_ 8 g1 a2, C_ 10 (g20 + 1 + 1 + 1 + 1 + 1) v18] s ∧ R y27 s.low ∧ NoB Bf s) l29 ?_ ⟨r, (by rw [hl]; exact hR), hf⟩ ?_
  ·rintro ⟨x24, x25⟩ s out ⟨r, hR0, hf⟩ k7
   dsimp only at hR0 r
   obtain ⟨low, hl⟩ : ∃ l, s.low = l := ⟨_, rfl⟩
   rw [hl] at hR0
   have hR := hR0
   have hlN : low.length = N := hN _ _ hR
   have ba3 := ba3S _ _ hR
   have ba4 := ba4S _ _ hR
   simp only [Av] at k7
   refine Ra hl hf ?_
   rintro g30 s r hl hf
   refine DW r.2.2.2.2.2.2.2.2.2.1 k7 (fun c31 k7 => ?_) fun c31 k7 => ?_
   ·refine blk ?_
    obtain ⟨v32, h33, k8⟩ := bnk k7
    refine Ra hl hf ?_
    rintro g34 s r hl hf
    obtain ⟨v35, h36, k9⟩ := bnk k8
    refine Ra hl hf ?_
    rintro g37 s r hl hf
    obtain ⟨o45, q46, k10⟩ := bnk k9
    refine lb [E_ 0 a0, E_ 1 a1, (4, .v (.ptr pja4 pta4 pga4 0)), (5, .v (.d (.fptr (zI.cells a5) 0))), C_ 8 g1 a2, C_ 10 (g20 + 1 + 1 + 1 + 1 + 1) v18, I_ 11 a0.len, E_ 12 ((Mp.get a5.able (Bm.key v18.at_)).getD (Sl.nil : (Sl Int))), I_ 13 x25, N_ 14 (g34 + 1 + 1 + 1 + 1) v32, I_ 15 (W ((W (v35.Week * 4)) + v32)), B_ 85 o45] hl hf ?_ ?_
    ·obtain ⟨v38, h39, q77⟩ := bnd q46
     by_cases c41 : v38 = true
     ·rw [if_pos c41] at q77
      have e1 := oI q77
      have f40 : ∀ (e : Env) (c : Nat) (z0 : Env.get 10 e = some (.box (g20 + 1 + 1 + 1 + 1 + 1) ((zI.cells v18).map LV.d))) (z1 : Env.get 14 e = some (.box (g34 + 1 + 1 + 1 + 1) [.d (.int v32)])), (om zL).call 67 [.d (zI.enc a0), .fn 68 [] [.ptr N 10 (g20 + 1 + 1 + 1 + 1 + 1) 0, .ptr N 14 (g34 + 1 + 1 + 1 + 1) 0]] (low ++ [⟨e, none⟩]) c = some (.d (.bool (v38)), low ++ [⟨e, none⟩], TL zL 67 [.d (zI.enc a0), .fn 68 [] [.ptr N 10 (g20 + 1 + 1 + 1 + 1 + 1) 0, .ptr N 14 (g34 + 1 + 1 + 1 + 1) 0]] (low ++ [⟨e, none⟩]) c) := fun e c z0 z1 => LL.om (ES (LA hlN z0) (LA hlN z1) h39) c
      simp only [rs, ps, JS, Jp, hl, nob hf, hlN, r, f40, c41, ← e1, reduceCtorEq, Nat.reduceEqDiff, Nat.reduceAdd]
     rw [if_neg c41] at q77
     have c41 := eq_false_of_ne_true c41
     by_cases c42 : (decide (Bm.key a2 = Bm.key B5)) = true
     ·rw [if_pos c42] at q77
      have e1 := oI q77
      have f40 : ∀ (e : Env) (c : Nat) (z0 : Env.get 10 e = some (.box (g20 + 1 + 1 + 1 + 1 + 1) ((zI.cells v18).map LV.d))) (z1 : Env.get 14 e = some (.box (g34 + 1 + 1 + 1 + 1) [.d (.int v32)])), (om zL).call 67 [.d (zI.enc a0), .fn 68 [] [.ptr N 10 (g20 + 1 + 1 + 1 + 1 + 1) 0, .ptr N 14 (g34 + 1 + 1 + 1 + 1) 0]] (low ++ [⟨e, none⟩]) c = some (.d (.bool (v38)), low ++ [⟨e, none⟩], TL zL 67 [.d (zI.enc a0), .fn 68 [] [.ptr N 10 (g20 + 1 + 1 + 1 + 1 + 1) 0, .ptr N 14 (g34 + 1 + 1 + 1 + 1) 0]] (low ++ [⟨e, none⟩]) c) := fun e c z0 z1 => LL.om (ES (LA hlN z0) (LA hlN z1) h39) c
      simp only [rs, ps, JS, Jp, hl, nob hf, hlN, r, f40, c41, (Iz).call, c42, ← e1, reduceCtorEq, Nat.reduceEqDiff, Nat.reduceAdd]
     rw [if_neg c42] at q77
     have c42 := eq_false_of_ne_true c42
     obtain ⟨v43, h44, q78⟩ := bnd q77
     have e1 := oI q78
     have f40 : ∀ (e : Env) (c : Nat) (z0 : Env.get 10 e = some (.box (g20 + 1 + 1 + 1 + 1 + 1) ((zI.cells v18).map LV.d))) (z1 : Env.get 14 e = some (.box (g34 + 1 + 1 + 1 + 1) [.d (.int v32)])), (om zL).call 67 [.d (zI.enc a0), .fn 68 [] [.ptr N 10 (g20 + 1 + 1 + 1 + 1 + 1) 0, .ptr N 14 (g34 + 1 + 1 + 1 + 1) 0]] (low ++ [⟨e, none⟩]) c = some (.d (.bool (v38)), low ++ [⟨e, none⟩], TL zL 67 [.d (zI.enc a0), .fn 68 [] [.ptr N 10 (g20 + 1 + 1 + 1 + 1 + 1) 0, .ptr N 14 (g34 + 1 + 1 + 1 + 1) 0]] (low ++ [⟨e, none⟩]) c) := fun e c z0 z1 => LL.om (ES (LA hlN z0) (LA hlN z1) h39) c
     simp only [rs, ps, JS, Jp, hl, nob hf, hlN, r, f40, c41, (Iz).call, c42, (EG h44), (D3 h44 rfl rfl), ← e1, reduceCtorEq, Nat.reduceEqDiff, Nat.reduceAdd]
    rintro s r hl hf
    refine DW r.2.2.2.2.2.2.2.2.2.2.2.1 k10 (fun c50 k10 => ?_) fun c50 k10 => ?_
    ·refine Ra hl hf ?_
     rintro g51 s r hl hf
     obtain rfl := oK k10
     exact ⟨rfl, r, (by rw [hl]; exact hR), hf⟩
    refine Ra hl hf ?_
    rintro g52 s r hl hf
    obtain ⟨v53, h54, k11⟩ := bnk k10
    have q56 := EG h54
    have q57 := D3 h54 rfl rfl
    have q58 := uR h54
    refine Ra hl hf ?_
    rintro g55 s r hl hf
    obtain ⟨v59, h60, k12⟩ := bnk k11
    try clear h13
    obtain ⟨v61, h62, k13⟩ := bnk k12
    have q64 := mQ (sz := 4) rfl h60
    have q65 := E5 (sz := 4) (x := (Sl.hot [(AH.mk v18.at_ (W (v18.many - 1)) (W (x25 + 1)))] : Sl AH)) (y := v59) rfl rfl h62
    refine Ra hl hf ?_
    rintro g63 s r hl hf
    obtain ⟨v66, h67, k14⟩ := bnk k13
    obtain ⟨v68, h69, k15⟩ := bnk k14
    obtain ⟨⟨v70, t71⟩, h72, k16⟩ := bnk k15
    dsimp only at k16
    refine regS (B := Bf) (low := low) (Q := R t71) [E_ 0 a0, E_ 1 a1, (4, .v (.ptr pja4 pta4 pga4 0)), (5, .v (.d (.fptr (zI.cells a5) 0))), C_ 8 g1 a2, C_ 10 (g20 + 1 + 1 + 1 + 1 + 1) v18, I_ 11 a0.len, E_ 12 ((Mp.get a5.able (Bm.key v18.at_)).getD (Sl.nil : (Sl Int))), I_ 13 x25, B_ 122 (!v70)] hl hf ?_ ?_
    ·have f73 : ∀ (e : Env) (c : Nat), (om zL).call 66 [.d (zI.enc v68), .d (zI.enc v61), .d (zI.enc (a2.put (W ((W (v35.Week * 4)) + v32)) (W (v53 + 1)))), .ptr pja3 pta3 pga3 0, .ptr pja4 pta4 pga4 0, .d (.fptr (zI.cells a5) 0)] (low ++ [⟨e, none⟩]) c = some (.d (.bool v70), aJ zL 66 [.d (zI.enc v68), .d (zI.enc v61), .d (zI.enc (a2.put (W ((W (v35.Week * 4)) + v32)) (W (v53 + 1)))), .ptr pja3 pta3 pga3 0, .ptr pja4 pta4 pga4 0, .d (.fptr (zI.cells a5) 0)] (low ++ [⟨e, none⟩]) c ++ [⟨e, none⟩], TL zL 66 [.d (zI.enc v68), .d (zI.enc v61), .d (zI.enc (a2.put (W ((W (v35.Week * 4)) + v32)) (W (v53 + 1)))), .ptr pja3 pta3 pga3 0, .ptr pja4 pta4 pga4 0, .d (.fptr (zI.cells a5) 0)] (low ++ [⟨e, none⟩]) c) ∧ R t71 (aJ zL 66 [.d (zI.enc v68), .d (zI.enc v61), .d (zI.enc (a2.put (W ((W (v35.Week * 4)) + v32)) (W (v53 + 1)))), .ptr pja3 pta3 pga3 0, .ptr pja4 pta4 pga4 0, .d (.fptr (zI.cells a5) 0)] (low ++ [⟨e, none⟩]) c) ∧ (aJ zL 66 [.d (zI.enc v68), .d (zI.enc v61), .d (zI.enc (a2.put (W ((W (v35.Week * 4)) + v32)) (W (v53 + 1)))), .ptr pja3 pta3 pga3 0, .ptr pja4 pta4 pga4 0, .d (.fptr (zI.cells a5) 0)] (low ++ [⟨e, none⟩]) c).length = low.length := fun e c => mC.om hN hR (ih (ri R ⟨e, none⟩) (N + 1) (SZ hN _) yj yg (hy.push _) v68 v61 (a2.put (W ((W (v35.Week * 4)) + v32)) (W (v53 + 1))) a5 _ _ _ _ _ _ (Gn ba3S _) (Gn ba4S _) _ _ ⟨low, rfl, hR⟩ _ h72) c
     simp only [rs, ps, Iy, Rb, eu, G3, Ih, DI, hl, nob hf, hlN, r, (Ef ba4), (LQ (sz := 3) rfl h67), (E5 (sz := 3) (x := v66) (y := (Sl.cold [(AB.mk v18.at_.piece v18.at_.part v32)] : Sl AB)) rfl rfl h69), (tM h62), (ku h69 (by simp)), (fun e c => (f73 e c).1), (fun e c => (f73 e c).2.1), (fun e c => (f73 e c).2.2), reduceCtorEq, Nat.reduceEqDiff, Nat.reduceAdd]
    rintro s r hR0 hf
    obtain ⟨low, hl⟩ : ∃ l, s.low = l := ⟨_, rfl⟩
    rw [hl] at hR0
    have hR := hR0
    have hlN : low.length = N := hN _ _ hR
    have ba3 := ba3S _ _ hR
    have ba4 := ba4S _ _ hR
    refine Kw r.2.2.2.2.2.2.2.2.2.1 k16 (fun c74 k16 => ?_) fun c74 k16 => ?_
    ·refine Ra hl hf ?_
     rintro g75 s r hl hf
     obtain rfl := oK k16
     exact ⟨rfl, r, (by rw [hl]; exact hR), hf⟩
    refine Ra hl hf ?_
    rintro g76 s r hl hf
    obtain rfl := oK k16
    exact ⟨by decide, ⟨rfl, ⟨Or.inr rfl, (by rw [hl]; exact hR), AI (AK r.1)⟩⟩⟩
   obtain rfl := oK k7
   exact ⟨by decide, ⟨rfl, ⟨r.2.2.2.2.1, r.2.2.2.2.2.1, trivial⟩, (by rw [hl]; exact hR), hf⟩⟩
  intro j s hq
  rcases o28 with w26 | y27
  ·try dsimp only at k6 hq
   obtain ⟨rfl, hq⟩ := hq
   cases oK k6
   exact hq
  try dsimp only at k6 hq
  obtain ⟨rfl, r, hR0, hf⟩ := hq
  obtain ⟨low, hl⟩ : ∃ l, s.low = l := ⟨_, rfl⟩
  rw [hl] at hR0
  have hR := hR0
  have hlN : low.length = N := hN _ _ hR
  have ba3 := ba3S _ _ hR
  have ba4 := ba4S _ _ hR
  refine Ra hl hf ?_
  rintro g79 s r hl hf
  cases oK k6
  exact ⟨Or.inr rfl, (by rw [hl]; exact hR), AI (AK r.1)⟩
theorem E6 {σ : Type} {R : σ → List Fr → Prop} {N : Nat} (hN : ∀ s low, R s low → low.length = N) {yf : (Sl AB) → σ → Option (Bool × σ)} {yj yg : Nat} (hy : HS zL R yj yg (fun (x : (Sl AB)) => [.d (zI.enc x)]) yf) {a1 : AC} {a2 : (Sl AH)} {low : List Fr} {st : σ} (hR : R st low) {r : Unit × σ} (k0 : Bl yf a1 a2 st = some r) : mC zL 65 [.yield yj yg, .d (.fptr (zI.cells a1) 0), .d (.fptr [zI.enc a2] 0)] R low (.d (.tup [])) r.2 := by
 unfold Bl at k0; replace k0 := kq k0
 refine xR JR QD ?_
 rintro s r hl hf
 have hlN : low.length = N := hN _ _ hR
 refine Ra hl hf ?_
 rintro g1 s r hl hf
 refine Ra hl hf ?_
 rintro g2 s r hl hf
 have q4 := @Ox
 refine Ra hl hf ?_
 rintro g3 s r hl hf
 obtain ⟨⟨v5, t6⟩, h7, k1⟩ := bnk k0
 dsimp only at k1
 refine regS (B := JR) (low := low) (Q := R t6) [] hl hf ?_ ?_
 ·have f8 : ∀ (e : Env) (c : Nat) (z0 : Env.get 3 e = some (.box g1 [.yield yj yg])) (z1 : Env.get 4 e = some (.box g2 [.fn 66 [] [.ptr N 3 g1 0, .ptr N 4 g2 0, .d (.fptr (zI.cells a1) 0)]])), (om zL).call 66 [.d .nils, .d (zI.enc a2), .d (zI.enc B5), .ptr N 3 g1 0, .ptr N 4 g2 0, .d (.fptr (zI.cells a1) 0)] (low ++ [⟨e, none⟩]) c = some (.d (.bool v5), aJ zL 66 [.d .nils, .d (zI.enc a2), .d (zI.enc B5), .ptr N 3 g1 0, .ptr N 4 g2 0, .d (.fptr (zI.cells a1) 0)] (low ++ [⟨e, none⟩]) c ++ [⟨e, none⟩], TL zL 66 [.d .nils, .d (zI.enc a2), .d (zI.enc B5), .ptr N 3 g1 0, .ptr N 4 g2 0, .d (.fptr (zI.cells a1) 0)] (low ++ [⟨e, none⟩]) c) ∧ R t6 (aJ zL 66 [.d .nils, .d (zI.enc a2), .d (zI.enc B5), .ptr N 3 g1 0, .ptr N 4 g2 0, .d (.fptr (zI.cells a1) 0)] (low ++ [⟨e, none⟩]) c) ∧ (aJ zL 66 [.d .nils, .d (zI.enc a2), .d (zI.enc B5), .ptr N 3 g1 0, .ptr N 4 g2 0, .d (.fptr (zI.cells a1) 0)] (low ++ [⟨e, none⟩]) c).length = low.length := fun e c z0 z1 => mC.om hN hR (KQ 64 (ri R ⟨e, none⟩) (N + 1) (SZ hN _) yj yg (hy.push _) (Sl.nil : (Sl AB)) a2 B5 a1 _ _ _ _ _ _ (K9 hN z0) (K9 hN z1) _ _ ⟨low, rfl, hR⟩ _ h7) c
  simp only [rs, Be, G3, Ih, DI, hl, nob hf, hlN, r, (Iz).call, (fun e c z0 z1 => (f8 e c z0 z1).1), (fun e c z0 z1 => (f8 e c z0 z1).2.1), (fun e c z0 z1 => (f8 e c z0 z1).2.2), reduceCtorEq, Nat.reduceEqDiff, Nat.reduceAdd]
 rintro s - hR0 hf
 obtain ⟨low, hl⟩ : ∃ l, s.low = l := ⟨_, rfl⟩
 rw [hl] at hR0
 have hR := hR0
 have hlN : low.length = N := hN _ _ hR
 cases oK k1
 exact ⟨Or.inl rfl, (by rw [hl]; exact hR), qG _⟩
end Go.Lf
