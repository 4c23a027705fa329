/- A part of the proof. -/
import Derived.Test.YtpkbckdhkaggbaaDoorx27
import Derived.Test.YtpkbckdhkaggbaaDoorx29
import Derived.Test.YtpkbckdhkaggbaaDoorx48
set_option linter.all false
set_option maxHeartbeats 9999999
namespace Go.Lf
open Go
theorem Fz (a0 : (Sl (Ar 5 Int))) : Fin zL 65 [vG.enc a0] (.bool (E1 a0)) := by
 refine vF K9 LG ?_
 rintro low s r hl hf
 refine Ra hl hf ?_
 rintro g1 s r hl hf
 refine Ra hl hf ?_
 rintro g2 s r hl hf
 exact ⟨Or.inr rfl, hl, AO (AL r.1)⟩
def Z2 := fun a0 => (Fz a0).call
theorem KC {low : List Fr} {a0 : (Sl (Sl (Ar 5 Int)))} {r : Int} (k0 : Dv a0 = some r) : JO zL 79 [.d (vG.enc a0), .d (.fn 65 [] [])] low (.d (.int r)) := by
 unfold Dv at k0; replace k0 := kq k0
 refine en E4 Hk ?_
 rintro s r hl hf
 refine Ra hl hf ?_
 rintro g1 s r hl hf
 refine Ra hl hf ?_
 rintro g2 s r hl hf
 refine uh ?_
 obtain ⟨o5, l6, k1⟩ := uT k0
 refine A9 (f := BO a0) (E := fun (x : Int) s => DW [E_ 0 a0, (1, .v (.d (.fn 65 [] []))), I_ 7 a0.len, I_ 8 x] s ∧ s.low = low ∧ uY E4 s) (Q := fun (o : ((Int) ⊕ (Unit))) j s => match o with | .inl w4 => j = .ret ∧ ul Hk.1 low (.d (.int w4)) .ret s | .inr _ => j = .exit 0 ∧ DW [] s ∧ s.low = low ∧ uY E4 s) l6 ?_ ⟨r, hl, hf⟩ ?_
 ·rintro x3 s out ⟨r, hl, hf⟩ k2
  unfold BO at k2
  refine Ra hl hf ?_
  rintro g7 s r hl hf
  refine E2 r.2.2.2.2.1 k2 (fun c8 k2 => ?_) fun c8 k2 => ?_
  ·refine uh <| Ra hl hf ?_
   rintro g9 s r hl hf
   obtain ⟨v10, h11, k3⟩ := uT k2
   obtain ⟨c12, hc12⟩ := HT (LP := zL) (ds := [vG.enc v10]) (Fz v10); simp only [List.map_cons, List.map_nil] at hc12
   have q14 := @hc12
   refine Ra hl hf ?_
   rintro g13 s r hl hf
   refine E2 r.2.2.2.2.2.1 k3 (fun c15 k3 => ?_) fun c15 k3 => ?_
   ·refine Ra hl hf ?_
    rintro g16 s r hl hf
    obtain rfl := oK k3
    exact ⟨by decide, ⟨rfl, ⟨Or.inr rfl, hl, AO (AL r.1)⟩⟩⟩
   refine Ra hl hf ?_
   rintro g17 s r hl hf
   obtain rfl := oK k3
   exact ⟨rfl, r, hl, hf⟩
  obtain rfl := oK k2
  exact ⟨by decide, ⟨rfl, trivial, hl, hf⟩⟩
 intro j s hq
 rcases o5 with w4 | _
 ·try dsimp only at k1 hq
  obtain ⟨rfl, hq⟩ := hq
  cases oK k1
  exact hq
 try dsimp only at k1 hq
 obtain ⟨rfl, -, hl, hf⟩ := hq
 refine Ra hl hf ?_
 rintro g18 s r hl hf
 cases oK k1
 exact ⟨Or.inr rfl, hl, AO (AL r.1)⟩
theorem Ii {low : List Fr} {a0 : (Sl (Sl (Ar 5 Int)))} {r : Bool} (k0 : Cm a0 = some r) : JO zL 64 [.d (vG.enc a0), .d (.fn 65 [] [])] low (.d (.bool r)) := by
 unfold Cm at k0; replace k0 := kq k0
 refine en KH Ku ?_
 rintro s r hl hf
 refine Ra hl hf ?_
 rintro g1 s r hl hf
 obtain ⟨v2, h3, k1⟩ := uT k0
 have f4 : ∀ (e : uI) (c : Nat), (om zL).call 79 [.d (vG.enc a0), .d (.fn 65 [] [])] (low ++ [⟨e, none⟩]) c = some (.d (.int (v2)), low ++ [⟨e, none⟩], QZ zL 79 [.d (vG.enc a0), .d (.fn 65 [] [])] (low ++ [⟨e, none⟩]) c) := fun e c => JO.om (KC h3) c
 have q6 := @f4
 refine Ra hl hf ?_
 rintro g5 s r hl hf
 cases oK k1
 exact ⟨Or.inr rfl, hl, AO (AL r.1)⟩
theorem NC {a0 : AA} {r : Bool} (k0 : B7 a0 = some r) : Fin zL 48 [vG.enc a0] (.bool r) := by
 unfold B7 at k0; replace k0 := kq k0
 refine vF OO N6 ?_
 rintro low s r hl hf
 refine Ra hl hf ?_
 rintro g1 s r hl hf
 obtain ⟨v2, h3, k1⟩ := uT k0
 have q5 := JO.call (LP := zL) (ds := [vG.enc a0.truths, .fn 65 [] []]) (Ii h3)
 refine Ra hl hf ?_
 rintro g4 s r hl hf
 cases oK k1
 exact ⟨Or.inr rfl, hl, AO (AL r.1)⟩
def FM := fun a0 => Cq.mk (@NC a0)
theorem WM {a0 : VoiceBook} {r : (Bool × Int)} (k0 : ID a0 = some r) : Fin zL 57 [vG.enc a0] (vG.enc r) := by
 unfold ID at k0; replace k0 := kq k0
 refine vF YY Yr ?_
 rintro low s r hl hf
 have q14 := @Hn
 have q15 := @FM
 refine Ra hl hf ?_
 rintro g1 s r hl hf
 obtain ⟨v2, h3, k1⟩ := uT k0
 refine Ra hl hf ?_
 rintro g4 s r hl hf
 refine Ra hl hf ?_
 rintro g5 s r hl hf
 refine NF r.2.2.1 k1 (fun c6 k1 => ?_) fun c6 k1 => ?_
 ·obtain ⟨v7, h8, k2⟩ := uT k1
  obtain ⟨v9, h10, k3⟩ := uT k2
  have q12 := Fin.call (LP := zL) (ds := [vG.enc a0, .nils]) (GH h8)
  refine Ra hl hf ?_
  rintro g11 s r hl hf
  cases oK k3
  exact ⟨Or.inr rfl, hl, BJ (AL r.1) (AL r.2.1)⟩
 refine Ra hl hf ?_
 rintro g13 s r hl hf
 cases oK k1
 exact ⟨Or.inr rfl, hl, BJ (AL r.1) (AL r.2.1)⟩
def Yh := fun a0 => Cq.mk (@WM a0)
theorem L1 : Fin zL 58 [] (vG.enc (cE)) := by
 refine vF Ww XB ?_
 rintro low s - hl hf
 have q2 := @UJ
 refine Ra hl hf ?_
 rintro g1 s r hl hf
 have q4 := @HS
 refine Ra hl hf ?_
 rintro g3 s r hl hf
 exact ⟨Or.inr rfl, hl, AO (CU r.1 rfl)⟩
def mQ := L1.call
theorem GF (a0 : Int) : Fin zL 74 [.int a0] (.bool (Ig a0)) := by
 refine vF Qe QR ?_
 rintro low s r hl hf
 refine Ra hl hf ?_
 rintro g1 s - hl hf
 refine Ra hl hf ?_
 rintro g2 s r hl hf
 exact ⟨Or.inr rfl, hl, AO (AL r.1)⟩
def ji := fun a0 => (GF a0).call
theorem Vr {a0 : VoiceBook} {a1 : Bool} {r : (AA × Int)} (k0 : CV a0 a1 = some r) : Fin zL 36 [vG.enc a0, .bool a1] (vG.enc r) := by
 unfold CV at k0; replace k0 := kq k0
 refine vF Zg ZH ?_
 rintro low s r hl hf
 have q24 := @Hn
 have q25 := @FM
 have q2 := @MK
 refine Ra hl hf ?_
 rintro g1 s r hl hf
 obtain ⟨v3, h4, k1⟩ := uT k0
 refine Ra hl hf ?_
 rintro g5 s r hl hf
 refine Ra hl hf ?_
 rintro g6 s r hl hf
 refine NF r.2.2.2.2.1 k1 (fun c7 k1 => ?_) fun c7 k1 => ?_
 ·refine Ra hl hf ?_
  rintro g8 s r hl hf
  refine NF r.2.2.1 k1 (fun c9 k1 => ?_) fun c9 k1 => ?_
  ·obtain ⟨v10, h11, k2⟩ := uT k1
   have q13 := Fin.call (LP := zL) (ds := [vG.enc a0, .nils]) (GH h11)
   refine Ra hl hf ?_
   rintro g12 s r hl hf
   obtain ⟨v14, h15, k3⟩ := uT k2
   refine Ra hl hf ?_
   rintro g16 s r hl hf
   refine NF r.2.2.1 k3 (fun c17 k3 => ?_) fun c17 k3 => ?_
   ·refine Ra hl hf ?_
    rintro g18 s r hl hf
    cases oK k3
    exact ⟨Or.inr rfl, hl, BJ (CU r.1 rfl) (AL r.2.1)⟩
   refine Ra hl hf ?_
   rintro g19 s r hl hf
   cases oK k3
   exact ⟨Or.inr rfl, hl, BJ (CU r.1 rfl) (AL r.2.1)⟩
  have q21 := @P1
  refine Ra hl hf ?_
  rintro g20 s r hl hf
  cases oK k1
  exact ⟨Or.inr rfl, hl, BJ (CU r.1 rfl) (AL r.2.1)⟩
 have q23 := @P1
 refine Ra hl hf ?_
 rintro g22 s r hl hf
 cases oK k1
 exact ⟨Or.inr rfl, hl, BJ (CU r.1 rfl) (AL r.2.1)⟩
def Ot := fun a0 a1 => Cq.mk (@Vr a0 a1)
theorem Jd {a0 : AA} {a1 : Int} {a2 : (Ar 5 Int)} {a3 : Int} {r : Int} (k0 : E7 a0 a1 a2 a3 = some r) : Fin zL 75 [vG.enc a0, .int a1, vG.enc a2, .int a3] (.int r) := by
 unfold E7 at k0; replace k0 := kq k0
 refine vF K4 K2 ?_
 rintro low s r hl hf
 have q20 := @J2
 refine Ra hl hf ?_
 rintro g1 s r hl hf
 obtain ⟨v2, h3, k1⟩ := uT k0
 obtain ⟨v4, h5, k2⟩ := uT k1
 have q7 := DY h3
 have q8 := CG h3 rfl rfl
 refine Ra hl hf ?_
 rintro g6 s r hl hf
 obtain ⟨v9, h10, k3⟩ := uT k2
 obtain ⟨v11, h12, k4⟩ := uT k3
 obtain ⟨v13, h14, k5⟩ := uT k4
 have q16 := DY h10
 have q17 := CG h10 rfl rfl
 have q18 := DY h12
 have q19 := CG h12 rfl rfl
 refine Ra hl hf ?_
 rintro g15 s r hl hf
 cases oK k5
 exact ⟨Or.inr rfl, hl, AO (AL r.1)⟩
def jv := fun a0 a1 a2 a3 => Cq.mk (@Jd a0 a1 a2 a3)
theorem Jy {a0 : AA} {a1 : Int} {a2 : (Ar 5 Int)} {a3 : Int} {a4 : Int} {r : Bool} (k0 : EO a0 a1 a2 a3 a4 = some r) : Fin zL 59 [vG.enc a0, .int a1, vG.enc a2, .int a3, .int a4] (.bool r) := by
 unfold EO at k0; replace k0 := kq k0
 refine vF K3 K0 ?_
 rintro low s r hl hf
 have q22 := @Dn
 refine Ra hl hf ?_
 rintro g1 s r hl hf
 obtain ⟨uv, q12, k1⟩ := uT k0
 refine gY [B_ 10 uv] hl hf ?_ ?_
 ·by_cases c2 : (decide (BZ.key a2 = BZ.key (⟨[(-1), (-1), (-1), (-1), (-1)], rfl⟩ : (Ar 5 Int)))) = true
  ·rw [if_pos c2] at q12
   have e1 := oI q12
   simp only [rs, ps, IX, IQ, hl, uD hf, r, ON, c2, ← e1, reduceCtorEq, Nat.reduceEqDiff, Nat.reduceAdd]
  rw [if_neg c2] at q12
  have c2 := eq_false_of_ne_true c2
  obtain ⟨v3, h4, q19⟩ := t3 q12
  by_cases c5 : (decide (a3 < v3)) = true
  ·rw [if_pos c5] at q19
   obtain ⟨v6, h7, q20⟩ := t3 q19
   obtain ⟨v9, h10, q21⟩ := t3 q20
   have e1 := oI q21
   obtain ⟨c8, hc8⟩ := HT (LP := zL) (ds := [vG.enc a0, .int a1, vG.enc a2, .int a3]) (Jd h10); simp only [List.map_cons, List.map_nil] at hc8
   simp only [rs, ps, IX, IQ, hl, uD hf, r, ON, c2, (DY h4), (CG h4 rfl rfl), c5, (DY h7), (CG h7 rfl rfl), hc8, (H8 a4 v6 v9).call, ← e1, reduceCtorEq, Nat.reduceEqDiff, Nat.reduceAdd]
  rw [if_neg c5] at q19
  have c5 := eq_false_of_ne_true c5
  have e1 := oI q19
  simp only [rs, ps, IX, IQ, hl, uD hf, r, ON, c2, (DY h4), (CG h4 rfl rfl), c5, ← e1, reduceCtorEq, Nat.reduceEqDiff, Nat.reduceAdd]
 rintro s r hl hf
 cases oK k1
 exact ⟨Or.inr rfl, hl, AO (AL r.1)⟩
def jt := fun a0 a1 a2 a3 a4 => Cq.mk (@Jy a0 a1 a2 a3 a4)
theorem OF {a0 : AA} {a1 : Int} {a2 : Int} {a3 : Int} {r : Af} (k0 : EH a0 a1 a2 a3 = some r) : Fin zL 40 [vG.enc a0, .int a1, .int a2, .int a3] (vG.enc r) := by
 unfold EH at k0; replace k0 := kq k0
 refine vF GG P7 ?_
 rintro low s r hl hf
 have q2 := @Zp
 refine Ra hl hf ?_
 rintro g1 s r hl hf
 obtain ⟨v3, h4, k1⟩ := uT k0
 have q6 := @SU
 refine Ra hl hf ?_
 rintro g5 s r hl hf
 have q8 := @Iq
 have q9 := fun s ro => ZQ (n := 2) s ro a0.whole (Aa.mk a1 a2) (Sl.nil : (Sl (Ar 5 Int))) (.nils) rfl (by decide) rfl
 refine Ra hl hf ?_
 rintro g7 s r hl hf
 refine uh ?_
 obtain ⟨uJ, l14, k2⟩ := uT k1
 refine A9 (f := B9 a0 a1 a2 a3) (E := fun (x : Af × Int) s => DW [I_ 1 a1, I_ 2 a2, I_ 3 a3, C_ 4 g1 a0, C_ 8 (g1 + 1) (Af.mk 0 0), C_ 9 (g5 + 1 + 1 + 1 + 1 + 1 + 1 + 1) x.1, E_ 24 ((Mp.get a0.whole (BZ.key (Aa.mk a1 a2))).getD (Sl.nil : (Sl (Ar 5 Int)))), I_ 25 (((Mp.get a0.whole (BZ.key (Aa.mk a1 a2))).getD (Sl.nil : (Sl (Ar 5 Int)))).len), I_ 26 x.2] s ∧ s.low = low ∧ uY GG s) (Q := fun (y12 : Af) j s => j = .exit 0 ∧ DW [C_ 4 g1 a0, C_ 8 (g1 + 1) (Af.mk 0 0), C_ 9 (g5 + 1 + 1 + 1 + 1 + 1 + 1 + 1) y12] s ∧ s.low = low ∧ uY GG s) l14 ?_ ⟨r, hl, hf⟩ ?_
 ·rintro ⟨x10, x11⟩ s out ⟨r, hl, hf⟩ k3
  dsimp only at r
  simp only [B9] at k3
  refine Ra hl hf ?_
  rintro g15 s r hl hf
  refine E2 r.2.2.2.2.2.2.2.2.2.1 k3 (fun c16 k3 => ?_) fun c16 k3 => ?_
  ·refine uh ?_
   obtain ⟨v17, h18, k4⟩ := uT k3
   refine Ra hl hf ?_
   rintro g19 s r hl hf
   obtain ⟨v21, h22, k5⟩ := uT k4
   obtain ⟨c20, hc20⟩ := HT (LP := zL) (ds := [vG.enc a0, .int a1, vG.enc v17, .int a2, .int a3]) (Jy h22); simp only [List.map_cons, List.map_nil] at hc20
   have q24 := @hc20
   refine Ra hl hf ?_
   rintro g23 s r hl hf
   refine E2 r.2.2.2.2.2.2.2.2.2.1 k5 (fun u7 k5 => ?_) fun u7 k5 => ?_
   ·refine Ra hl hf ?_
    rintro g26 s r hl hf
    refine Ra hl hf ?_
    rintro g27 s r hl hf
    obtain rfl := oK k5
    exact ⟨rfl, r, hl, hf⟩
   refine Ra hl hf ?_
   rintro g28 s r hl hf
   obtain rfl := oK k5
   exact ⟨rfl, r, hl, hf⟩
  obtain rfl := oK k3
  exact ⟨by decide, ⟨rfl, ⟨r.2.2.2.1, r.2.2.2.2.1, r.2.2.2.2.2.1, trivial⟩, hl, hf⟩⟩
 intro j s hq
 obtain ⟨y12, rfl⟩ : ∃ x, x = uJ := ⟨_, rfl⟩
 try dsimp only at k2 hq
 obtain ⟨rfl, r, hl, hf⟩ := hq
 refine Ra hl hf ?_
 rintro g29 s r hl hf
 cases oK k2
 exact ⟨Or.inr rfl, hl, AO (CU r.1 rfl)⟩
def Ph := fun a0 a1 a2 a3 => Cq.mk (@OF a0 a1 a2 a3)
theorem IC (a0 : Af) : Fin zL 100 [vG.enc a0] (.bool (FD a0)) := by
 refine vF Pz Oe ?_
 rintro low s r hl hf
 refine Ra hl hf ?_
 rintro g1 s r hl hf
 refine Ra hl hf ?_
 rintro g2 s r hl hf
 exact ⟨Or.inr rfl, hl, AO (AL r.1)⟩
def O6 := fun a0 => (IC a0).call
theorem IZ (a0 : Af) : Fin zL 101 [vG.enc a0] (.bool (FI a0)) := by
 refine vF Po Px ?_
 rintro low s r hl hf
 refine Ra hl hf ?_
 rintro g1 s r hl hf
 refine Ra hl hf ?_
 rintro g2 s r hl hf
 exact ⟨Or.inr rfl, hl, AO (AL r.1)⟩
def iJ := fun a0 => (IZ a0).call
theorem ND {a0 : Af} {r : Int} (k0 : Dx a0 = some r) : Fin zL 41 [vG.enc a0] (.int r) := by
 unfold Dx at k0; replace k0 := kq k0
 refine vF FQ OR ?_
 rintro low s r hl hf
 have q23 := @O6
 refine Ra hl hf ?_
 rintro g1 s r hl hf
 refine Ra hl hf ?_
 rintro g2 s r hl hf
 have q4 := @pR
 refine Ra hl hf ?_
 rintro g3 s r hl hf
 refine uh ?_
 obtain ⟨o8, l9, k1⟩ := uT k0
 refine A9 (f := Az a0) (E := fun (x : Int × Int) s => DW [C_ 1 g1 a0, I_ 3 x.1, (6, .v (.d (.agg [.fn 100 [] [], .fn 101 [] []]))), I_ 7 x.2] s ∧ s.low = low ∧ uY FQ s) (Q := fun (y7 : Int) j s => j = .exit 0 ∧ DW [C_ 1 g1 a0, I_ 3 y7] s ∧ s.low = low ∧ uY FQ s) l9 ?_ ⟨r, hl, hf⟩ ?_
 ·rintro ⟨x5, x6⟩ s out ⟨r, hl, hf⟩ k2
  dsimp only at r
  simp only [Az] at k2
  refine Ra hl hf ?_
  rintro g10 s r hl hf
  refine E2 r.2.2.2.2.1 k2 (fun c11 k2 => ?_) fun c11 k2 => ?_
  ·refine uh ?_
   obtain ⟨v12, h13, k3⟩ := uT k2
   refine Ra hl hf ?_ (h := by intro c; simp only [(qE (x := .fn 100 [] []) (y := .fn 101 [] []) h13), rt, ps, uD hf, *, reduceCtorEq, Nat.reduceEqDiff, Nat.reduceAdd, Nat.reduceMul] <;> rfl)
   rintro g14 s r hl hf
   refine gY [C_ 1 g1 a0, I_ 3 x5, (6, .v (.d (.agg [.fn 100 [] [], .fn 101 [] []]))), I_ 7 x6, B_ 12 (if v12 then (FI a0) else (FD a0))] hl hf ?_ ?_
   ·cases c16 : v12
    ·simp only [rs, ps, oc, oU, hl, uD hf, r, c16, (IC a0).call, reduceCtorEq, Nat.reduceEqDiff, Nat.reduceAdd]
    simp only [rs, ps, oc, oU, hl, uD hf, r, c16, (IZ a0).call, reduceCtorEq, Nat.reduceEqDiff, Nat.reduceAdd]
   rintro s r hl hf
   refine E2 r.2.2.2.2.1 k3 (fun c18 k3 => ?_) fun c18 k3 => ?_
   ·refine Ra hl hf ?_
    rintro g19 s r hl hf
    refine Ra hl hf ?_
    rintro g20 s r hl hf
    obtain rfl := oK k3
    exact ⟨rfl, r, hl, hf⟩
   refine Ra hl hf ?_
   rintro g21 s r hl hf
   obtain rfl := oK k3
   exact ⟨rfl, r, hl, hf⟩
  obtain rfl := oK k2
  exact ⟨by decide, ⟨rfl, ⟨r.1, r.2.1, trivial⟩, hl, hf⟩⟩
 intro j s hq
 obtain ⟨y7, rfl⟩ : ∃ x, x = o8 := ⟨_, rfl⟩
 try dsimp only at k1 hq
 obtain ⟨rfl, r, hl, hf⟩ := hq
 refine Ra hl hf ?_
 rintro g22 s r hl hf
 cases oK k1
 exact ⟨Or.inr rfl, hl, AO (AL r.1)⟩
def OZ := fun a0 => Cq.mk (@ND a0)
theorem WO {a0 : VoiceBook} {a1 : Int} {a2 : Int} {a3 : Int} {r : (Int × Int)} (k0 : FN a0 a1 a2 a3 = some r) : Fin zL 10 [vG.enc a0, .int a1, .int a2, .int a3] (vG.enc r) := by
 unfold FN at k0; replace k0 := kq k0
 refine vF Zx YR ?_
 rintro low s r hl hf
 have q22 := @Ot
 have q23 := @Ph
 have q24 := @QD
 have q25 := @Nk
 have q26 := @NR
 have q27 := @OZ
 refine Ra hl hf ?_
 rintro g1 s r hl hf
 obtain ⟨⟨uo, uv⟩, q, k1⟩ := uT k0
 try dsimp only at k1
 refine Rq (fun g13 => [C_ 10 (g13 + 1 + 1 + 1 + 1 + 1 + 1 + 1 + 1 + 1 + 1 + 1 + 1 + 1 + 1 + 1 + 1 + 1) uo, I_ 11 uv]) hl hf q ?_
 rintro g13 s r hl hf
 refine Ra hl hf ?_
 rintro g14 s r hl hf
 refine NF r.2.2.2.2.2.1 k1 (fun c15 k1 => ?_) fun c15 k1 => ?_
 ·obtain ⟨v16, h17, k2⟩ := uT k1
  obtain ⟨v18, h19, k3⟩ := uT k2
  refine Ra hl hf ?_
  rintro g20 s r hl hf
  cases oK k3
  exact ⟨Or.inr rfl, hl, BJ (AL r.1) (AL r.2.1)⟩
 refine Ra hl hf ?_
 rintro g21 s r hl hf
 cases oK k1
 exact ⟨Or.inr rfl, hl, BJ (AL r.1) (AL r.2.1)⟩
def PU := fun a0 a1 a2 a3 => Cq.mk (@WO a0 a1 a2 a3)
theorem IK {low : List Fr} {a0 : AB} {a1 : AI} {a2 : Int} {wja0 : Nat} {wta0 : Nat} {wga0 : Nat} (hwa0 : wja0 < low.length) {r : Bool} (k0 : CY a0 a1 a2 = some r) : JO zL 61 [.agg (AB.lc a0 wja0 wta0 wga0), .d (vG.enc a1), .d (.int a2)] low (.d (.bool r)) := by
 unfold CY at k0; replace k0 := kq k0
 refine en HW K5 ?_
 rintro s r hl hf
 have q29 := @PU
 have q2 := @Q7
 refine Ra hl hf ?_
 rintro g1 s r hl hf
 obtain ⟨v3, h4, k1⟩ := uT k0
 have q6 := @OU
 refine Ra hl hf ?_
 rintro g5 s r hl hf
 obtain ⟨v7, h8, k2⟩ := uT k1
 refine Ra hl hf ?_
 rintro g9 s r hl hf
 refine Ra hl hf ?_
 rintro g10 s r hl hf
 refine uh ?_
 obtain ⟨uJ, l14, k3⟩ := uT k2
 refine A9 (f := B5 a0 a2 v3 v7) (E := fun (x : Int) s => DW [I_ 2 a2, (3, .box g1 (AB.lc a0 wja0 wta0 wga0)), C_ 7 (g5 + 1 + 1 + 1 + 1 + 1 + 1 + 1) v3, C_ 8 (g9 + 1 + 1 + 1 + 1 + 1 + 1 + 1) v7.Notes, I_ 31 (W ((W (v7.Notes.High - v7.Notes.Low)) + 1)), I_ 32 x] s ∧ s.low = low ∧ uY HW s) (Q := fun (o : ((Bool) ⊕ (Unit))) j s => match o with | .inl w12 => j = .ret ∧ ul K5.1 low (.d (.bool w12)) .ret s | .inr _ => j = .exit 0 ∧ DW [(3, .box g1 (AB.lc a0 wja0 wta0 wga0)), C_ 7 (g5 + 1 + 1 + 1 + 1 + 1 + 1 + 1) v3, C_ 8 (g9 + 1 + 1 + 1 + 1 + 1 + 1 + 1) v7.Notes] s ∧ s.low = low ∧ uY HW s) l14 ?_ ⟨r, hl, hf⟩ ?_
 ·rintro x11 s out ⟨r, hl, hf⟩ k4
  unfold B5 at k4
  refine Ra hl hf ?_
  rintro g15 s r hl hf
  refine E2 r.2.2.2.2.2.2.1 k4 (fun c16 k4 => ?_) fun c16 k4 => ?_
  ·refine uh <| Ra hl hf ?_
   rintro g17 s r hl hf
   obtain ⟨v18, h19, k5⟩ := uT k4
   have q21 := @ML
   refine Ra hl hf ?_
   rintro g20 s r hl hf
   refine Rx (fun g24 => [B_ 54 (if (decide (v18.2 = 0)) then (decide (v18.1 < 2)) else true)]) hl hf ?_
   rintro g24 s r hl hf
   refine E2 r.2.2.2.2.2.2.1 k5 (fun u7 k5 => ?_) fun u7 k5 => ?_
   ·refine Ra hl hf ?_
    rintro g26 s r hl hf
    obtain rfl := oK k5
    exact ⟨by decide, ⟨rfl, ⟨Or.inr rfl, hl, AO (AL r.1)⟩⟩⟩
   refine Ra hl hf ?_
   rintro g27 s r hl hf
   obtain rfl := oK k5
   exact ⟨rfl, r, hl, hf⟩
  obtain rfl := oK k4
  exact ⟨by decide, ⟨rfl, ⟨r.2.1, r.2.2.1, r.2.2.2.1, trivial⟩, hl, hf⟩⟩
 intro j s hq
 rcases uJ with w12 | _
 ·try dsimp only at k3 hq
  obtain ⟨rfl, hq⟩ := hq
  cases oK k3
  exact hq
 try dsimp only at k3 hq
 obtain ⟨rfl, r, hl, hf⟩ := hq
 refine Ra hl hf ?_
 rintro g28 s r hl hf
 cases oK k3
 exact ⟨Or.inr rfl, hl, AO (AL r.1)⟩
theorem QQ {low : List Fr} {a0 : BenchBook} {r : AB} (k0 : Gz a0 = some r) : JO zL 43 [.d (vG.enc a0), .d (.agg [.fn 74 [] []])] low (.d (vG.enc r)) := by
 unfold Gz at k0; replace k0 := kq k0
 refine en A8 NU ?_
 rintro s r hl hf
 have q2 := @fa
 have q3 := @bG
 have q4 := @HE
 refine Ra hl hf ?_
 rintro g1 s r hl hf
 have q6 := @Ey
 have q7 := @Ge
 have q8 := @Md
 have q9 := @IH
 have q10 := @HE
 have q11 := @lT
 refine Ra hl hf ?_ (h := by intro c; simp only [(Qd (n := 2) (AI.mk (-1) (-1)) rfl (by decide)), (QK (LP := zL) (t := 13) (gm := c + 1) (key := (BZ.key (AI.mk (-1) (-1)))) (a := (Sl.nil : (Sl Int))) (vd := .nils) (hav := rfl)), rt, ps, uD hf, *, reduceCtorEq, Nat.reduceEqDiff, Nat.reduceAdd, Nat.reduceMul] <;> rfl)
 rintro g5 s r hl hf
 have q15 := @It
 have q16 := @Di
 refine Ra hl hf ?_
 rintro g14 s r hl hf
 refine Ra hl hf ?_
 rintro g17 s r hl hf
 refine uh ?_
 obtain ⟨o21, l22, k1⟩ := uT k0
 refine A9 (f := Gn a0) (E := fun (x : (List (List Int × (Sl Int))) × Int) s => DW [C_ 2 g1 a0, (3, .box (g1 + 1) [.d (.fn 74 [] [])]), C_ 4 (g1 + 1 + 1) (AB.mk (BenchBook.mk (VoiceBook.mk (Sl.nil : (Sl AN)) 0 (Sl.nil : (Sl AE))) (Sl.nil : (Sl AK)) 0) (Mp.nil : (Mp 2 (Sl Int)))), (5, .box (g5 + 1 + 1 + 1 + 1 + 1 + 1) (AB.lc (AB.mk a0 (Mp.nil : (Mp 2 (Sl Int)))) low.length 13 (g5 + 1))), (6, .v (.fn 61 [.agg (AB.lc (AB.mk a0 (Mp.nil : (Mp 2 (Sl Int)))) low.length 13 (g5 + 1))] [])), (13, .mapo (g5 + 1) 2 (DK x.1)), E_ 20 a0.Pieces, I_ 21 a0.Pieces.len, I_ 22 x.2] s ∧ s.low = low ∧ uY A8 s) (Q := fun (y20 : (List (List Int × (Sl Int)))) j s => j = .exit 0 ∧ DW [C_ 2 g1 a0, (3, .box (g1 + 1) [.d (.fn 74 [] [])]), C_ 4 (g1 + 1 + 1) (AB.mk (BenchBook.mk (VoiceBook.mk (Sl.nil : (Sl AN)) 0 (Sl.nil : (Sl AE))) (Sl.nil : (Sl AK)) 0) (Mp.nil : (Mp 2 (Sl Int)))), (5, .box (g5 + 1 + 1 + 1 + 1 + 1 + 1) (AB.lc (AB.mk a0 (Mp.nil : (Mp 2 (Sl Int)))) low.length 13 (g5 + 1))), (13, .mapo (g5 + 1) 2 (DK y20))] s ∧ s.low = low ∧ uY A8 s) l22 ?_ ⟨r, hl, hf⟩ ?_
 ·rintro ⟨x18, x19⟩ s out ⟨r, hl, hf⟩ k2
  dsimp only at r
  simp only [Gn] at k2
  refine Ra hl hf ?_
  rintro g23 s r hl hf
  refine E2 r.2.2.2.2.2.2.2.2.2.1 k2 (fun c24 k2 => ?_) fun c24 k2 => ?_
  ·refine uh ?_
   obtain ⟨v25, h26, k3⟩ := uT k2
   refine Ra hl hf ?_
   rintro g27 s r hl hf
   refine Ra hl hf ?_
   rintro g28 s r hl hf
   refine uh ?_
   obtain ⟨o32, l33, k4⟩ := uT k3
   refine A9 (f := Gq a0 x19 v25) (E := fun (x : (List (List Int × (Sl Int))) × Int) s => DW [C_ 2 g1 a0, (3, .box (g1 + 1) [.d (.fn 74 [] [])]), C_ 4 (g1 + 1 + 1) (AB.mk (BenchBook.mk (VoiceBook.mk (Sl.nil : (Sl AN)) 0 (Sl.nil : (Sl AE))) (Sl.nil : (Sl AK)) 0) (Mp.nil : (Mp 2 (Sl Int)))), (5, .box (g5 + 1 + 1 + 1 + 1 + 1 + 1) (AB.lc (AB.mk a0 (Mp.nil : (Mp 2 (Sl Int)))) low.length 13 (g5 + 1))), (6, .v (.fn 61 [.agg (AB.lc (AB.mk a0 (Mp.nil : (Mp 2 (Sl Int)))) low.length 13 (g5 + 1))] [])), I_ 7 x19, (13, .mapo (g5 + 1) 2 (DK x.1)), E_ 20 a0.Pieces, I_ 21 a0.Pieces.len, I_ 22 x19, I_ 29 v25.Parts.len, I_ 30 x.2] s ∧ s.low = low ∧ uY A8 s) (Q := fun (y31 : (List (List Int × (Sl Int)))) j s => j = .exit 2 ∧ DW [C_ 2 g1 a0, (3, .box (g1 + 1) [.d (.fn 74 [] [])]), C_ 4 (g1 + 1 + 1) (AB.mk (BenchBook.mk (VoiceBook.mk (Sl.nil : (Sl AN)) 0 (Sl.nil : (Sl AE))) (Sl.nil : (Sl AK)) 0) (Mp.nil : (Mp 2 (Sl Int)))), (5, .box (g5 + 1 + 1 + 1 + 1 + 1 + 1) (AB.lc (AB.mk a0 (Mp.nil : (Mp 2 (Sl Int)))) low.length 13 (g5 + 1))), (6, .v (.fn 61 [.agg (AB.lc (AB.mk a0 (Mp.nil : (Mp 2 (Sl Int)))) low.length 13 (g5 + 1))] [])), (13, .mapo (g5 + 1) 2 (DK y31)), E_ 20 a0.Pieces, I_ 21 a0.Pieces.len, I_ 22 x19] s ∧ s.low = low ∧ uY A8 s) l33 ?_ ⟨r, hl, hf⟩ ?_
   ·rintro ⟨x29, x30⟩ s out ⟨r, hl, hf⟩ k5
    dsimp only at r
    simp only [Gq] at k5
    refine Ra hl hf ?_
    rintro g34 s r hl hf
    refine E2 r.2.2.2.2.2.2.2.2.2.2.2.2.1 k5 (fun ua k5 => ?_) fun ua k5 => ?_
    ·refine uh <| Ra hl hf ?_
     rintro g36 s r hl hf
     have q38 := @EZ
     refine Ra hl hf ?_
     rintro g37 s r hl hf
     refine Ra hl hf ?_
     rintro g39 s r hl hf
     refine uh ?_
     obtain ⟨o43, l44, k6⟩ := uT k5
     refine A9 (f := Gj a0 x19 x30) (E := fun (x : (List (List Int × (Sl Int))) × Int) s => DW [C_ 2 g1 a0, (3, .box (g1 + 1) [.d (.fn 74 [] [])]), C_ 4 (g1 + 1 + 1) (AB.mk (BenchBook.mk (VoiceBook.mk (Sl.nil : (Sl AN)) 0 (Sl.nil : (Sl AE))) (Sl.nil : (Sl AK)) 0) (Mp.nil : (Mp 2 (Sl Int)))), (5, .box (g5 + 1 + 1 + 1 + 1 + 1 + 1) (AB.lc (AB.mk a0 (Mp.nil : (Mp 2 (Sl Int)))) low.length 13 (g5 + 1))), (6, .v (.fn 61 [.agg (AB.lc (AB.mk a0 (Mp.nil : (Mp 2 (Sl Int)))) low.length 13 (g5 + 1))] [])), I_ 7 x19, C_ 10 (g37 + 1 + 1 + 1) (AI.mk x19 x30), (13, .mapo (g5 + 1) 2 (DK x.1)), E_ 20 a0.Pieces, I_ 21 a0.Pieces.len, I_ 22 x19, I_ 29 v25.Parts.len, I_ 30 x30, I_ 39 a0.Voice.Boys.len, I_ 40 x.2] s ∧ s.low = low ∧ uY A8 s) (Q := fun (y42 : (List (List Int × (Sl Int)))) j s => j = .exit 4 ∧ DW [C_ 2 g1 a0, (3, .box (g1 + 1) [.d (.fn 74 [] [])]), C_ 4 (g1 + 1 + 1) (AB.mk (BenchBook.mk (VoiceBook.mk (Sl.nil : (Sl AN)) 0 (Sl.nil : (Sl AE))) (Sl.nil : (Sl AK)) 0) (Mp.nil : (Mp 2 (Sl Int)))), (5, .box (g5 + 1 + 1 + 1 + 1 + 1 + 1) (AB.lc (AB.mk a0 (Mp.nil : (Mp 2 (Sl Int)))) low.length 13 (g5 + 1))), (6, .v (.fn 61 [.agg (AB.lc (AB.mk a0 (Mp.nil : (Mp 2 (Sl Int)))) low.length 13 (g5 + 1))] [])), I_ 7 x19, C_ 10 (g37 + 1 + 1 + 1) (AI.mk x19 x30), (13, .mapo (g5 + 1) 2 (DK y42)), E_ 20 a0.Pieces, I_ 21 a0.Pieces.len, I_ 22 x19, I_ 29 v25.Parts.len, I_ 30 x30] s ∧ s.low = low ∧ uY A8 s) l44 ?_ ⟨r, hl, hf⟩ ?_
     ·rintro ⟨x40, x41⟩ s out ⟨r, hl, hf⟩ k7
      dsimp only at r
      simp only [Gj] at k7
      refine Ra hl hf ?_
      rintro g45 s r hl hf
      refine E2 r.2.2.2.2.2.2.2.2.2.2.2.2.2.2.2.1 k7 (fun c46 k7 => ?_) fun c46 k7 => ?_
      ·refine uh <| Ra hl hf ?_
       rintro g47 s r hl hf
       obtain ⟨o53, q54, k8⟩ := uT k7
       refine gY [C_ 2 g1 a0, (3, .box (g1 + 1) [.d (.fn 74 [] [])]), C_ 4 (g1 + 1 + 1) (AB.mk (BenchBook.mk (VoiceBook.mk (Sl.nil : (Sl AN)) 0 (Sl.nil : (Sl AE))) (Sl.nil : (Sl AK)) 0) (Mp.nil : (Mp 2 (Sl Int)))), (5, .box (g5 + 1 + 1 + 1 + 1 + 1 + 1) (AB.lc (AB.mk a0 (Mp.nil : (Mp 2 (Sl Int)))) low.length 13 (g5 + 1))), (6, .v (.fn 61 [.agg (AB.lc (AB.mk a0 (Mp.nil : (Mp 2 (Sl Int)))) low.length 13 (g5 + 1))] [])), I_ 7 x19, C_ 10 (g37 + 1 + 1 + 1) (AI.mk x19 x30), I_ 11 x41, (13, .mapo (g5 + 1) 2 (DK x40)), E_ 20 a0.Pieces, I_ 21 a0.Pieces.len, I_ 22 x19, I_ 29 v25.Parts.len, I_ 30 x30, I_ 39 a0.Voice.Boys.len, I_ 40 x41, B_ 53 o53] hl hf ?_ ?_
       ·by_cases c49 : (Ig x41) = true
        ·rw [if_pos c49] at q54
         have e1 := oI q54
         obtain ⟨c48, hc48⟩ := HT (LP := zL) (ds := [.int x41]) (GF x41); simp only [List.map_cons, List.map_nil] at hc48
         simp only [rs, ps, BQ, GR, HU, Cj, hl, uD hf, r, hc48, c49, ← e1, reduceCtorEq, Nat.reduceEqDiff, Nat.reduceAdd]
        rw [if_neg c49] at q54
        have c49 := eq_false_of_ne_true c49
        obtain ⟨v50, h51, q72⟩ := t3 q54
        have e1 := oI q72
        obtain ⟨c48, hc48⟩ := HT (LP := zL) (ds := [.int x41]) (GF x41); simp only [List.map_cons, List.map_nil] at hc48
        have f52 : ∀ (e : uI) (c : Nat), (om zL).call 61 [.agg (AB.lc (AB.mk a0 (Mp.nil : (Mp 2 (Sl Int)))) low.length 13 (g5 + 1)), .d (vG.enc (AI.mk x19 x30)), .d (.int x41)] (low ++ [⟨e, none⟩]) c = some (.d (.bool (v50)), low ++ [⟨e, none⟩], QZ zL 61 [.agg (AB.lc (AB.mk a0 (Mp.nil : (Mp 2 (Sl Int)))) low.length 13 (g5 + 1)), .d (vG.enc (AI.mk x19 x30)), .d (.int x41)] (low ++ [⟨e, none⟩]) c) := fun e c => JO.om (IK (by first | omega | (simp only [List.length_append, List.length_cons, List.length_nil]; omega)) h51) c
        simp only [rs, ps, BQ, GR, HU, Cj, hl, uD hf, r, hc48, c49, f52, ← e1, reduceCtorEq, Nat.reduceEqDiff, Nat.reduceAdd]
       rintro s r hl hf
       refine E2 r.2.2.2.2.2.2.2.2.2.2.2.2.2.2.2.2.1 k8 (fun uH k8 => ?_) fun uH k8 => ?_
       ·refine Ra hl hf ?_
        rintro g58 s r hl hf
        obtain rfl := oK k8
        exact ⟨rfl, r, hl, hf⟩
       obtain ⟨v59, h60, k9⟩ := uT k8
       have q62 := @Md
       have q63 := @IH
       have q64 := @Ia
       have q68 := GQ (sz := 1) (x := (LH (Sl.nil : (Sl Int)) x40 (BZ.key (AI.mk x19 x30)))) (y := (Sl.cold [x41] : Sl Int)) rfl rfl h60
       refine Ra hl hf ?_ (h := by intro c; simp only [(Qd (n := 2) (AI.mk x19 x30) rfl (by decide)), (PI (LP := zL) (t := 13) (gm := g5 + 1) (key := (BZ.key (AI.mk x19 x30))) (es := x40) (z := (Sl.nil : (Sl Int))) (hz := rfl)), (Zo (LP := zL) (a := (LH (Sl.nil : (Sl Int)) x40 (BZ.key (AI.mk x19 x30)))) (y := .d (.int (Fg x40 (BZ.key (AI.mk x19 x30)))))), (Oz (LP := zL) (x := Sl.lv (Sl.spent (LH (Sl.nil : (Sl Int)) x40 (BZ.key (AI.mk x19 x30))))) (y := .int (Fg x40 (BZ.key (AI.mk x19 x30))))), (O9 (LP := zL) (t := 13) (gm := g5 + 1) (key := (BZ.key (AI.mk x19 x30))) (es := x40) (z := (Sl.nil : (Sl Int))) (a := v59)), rt, ps, uD hf, *, reduceCtorEq, Nat.reduceEqDiff, Nat.reduceAdd, Nat.reduceMul] <;> rfl)
       rintro g61 s r hl hf
       refine Ra hl hf ?_
       rintro g71 s r hl hf
       obtain rfl := oK k9
       exact ⟨rfl, r, hl, hf⟩
      obtain rfl := oK k7
      exact ⟨by decide, ⟨rfl, ⟨r.1, r.2.1, r.2.2.1, r.2.2.2.1, r.2.2.2.2.1, r.2.2.2.2.2.1, r.2.2.2.2.2.2.1, r.2.2.2.2.2.2.2.1, r.2.2.2.2.2.2.2.2.1, r.2.2.2.2.2.2.2.2.2.1, r.2.2.2.2.2.2.2.2.2.2.1, r.2.2.2.2.2.2.2.2.2.2.2.1, r.2.2.2.2.2.2.2.2.2.2.2.2.1, trivial⟩, hl, hf⟩⟩
     intro j s hq
     obtain ⟨y42, rfl⟩ : ∃ x, x = o43 := ⟨_, rfl⟩
     try dsimp only at k6 hq
     obtain ⟨rfl, r, hl, hf⟩ := hq
     refine Ra hl hf ?_
     rintro g73 s r hl hf
     obtain rfl := oK k6
     exact ⟨rfl, r, hl, hf⟩
    obtain rfl := oK k5
    exact ⟨by decide, ⟨rfl, ⟨r.1, r.2.1, r.2.2.1, r.2.2.2.1, r.2.2.2.2.1, r.2.2.2.2.2.2.1, r.2.2.2.2.2.2.2.1, r.2.2.2.2.2.2.2.2.1, r.2.2.2.2.2.2.2.2.2.1, trivial⟩, hl, hf⟩⟩
   intro j s hq
   obtain ⟨y31, rfl⟩ : ∃ x, x = o32 := ⟨_, rfl⟩
   try dsimp only at k4 hq
   obtain ⟨rfl, r, hl, hf⟩ := hq
   refine Ra hl hf ?_
   rintro g74 s r hl hf
   obtain rfl := oK k4
   exact ⟨rfl, r, hl, hf⟩
  obtain rfl := oK k2
  exact ⟨by decide, ⟨rfl, ⟨r.1, r.2.1, r.2.2.1, r.2.2.2.1, r.2.2.2.2.2.1, trivial⟩, hl, hf⟩⟩
 intro j s hq
 obtain ⟨y20, rfl⟩ : ∃ x, x = o21 := ⟨_, rfl⟩
 try dsimp only at k1 hq
 obtain ⟨rfl, r, hl, hf⟩ := hq
 have q76 := @Ey
 have q77 := @Ge
 have q78 := @Di
 refine Ra hl hf ?_
 rintro g75 s r hl hf
 cases oK k1
 exact ⟨Or.inr rfl, hl, AO (Jn (by rw [hl]; exact r.1) r.2.1)⟩
theorem WL {a0 : BenchBook} {a1 : Bool} {r : (AB × Int)} (k0 : BP a0 a1 = some r) : Fin zL 33 [vG.enc a0, .bool a1] (vG.enc r) := by
 unfold BP at k0; replace k0 := kq k0
 refine vF Ya ZZ ?_
 rintro low s r hl hf
 have q26 := @QG
 have q27 := @Yh
 have q2 := @HE
 refine Ra hl hf ?_
 rintro g1 s r hl hf
 obtain ⟨v3, h4, k1⟩ := uT k0
 refine Ra hl hf ?_
 rintro g5 s r hl hf
 refine Ra hl hf ?_
 rintro g6 s r hl hf
 refine NF r.2.2.2.2.1 k1 (fun c7 k1 => ?_) fun c7 k1 => ?_
 ·refine Ra hl hf ?_
  rintro g8 s r hl hf
  refine NF r.2.2.1 k1 (fun c9 k1 => ?_) fun c9 k1 => ?_
  ·obtain ⟨v10, h11, k2⟩ := uT k1
   refine Ra hl hf ?_
   rintro g12 s r hl hf
   refine Ra hl hf ?_
   rintro g13 s r hl hf
   refine NF r.2.2.1 k2 (fun c14 k2 => ?_) fun c14 k2 => ?_
   ·obtain ⟨v15, h16, k3⟩ := uT k2
    have q18 := Fin.call (LP := zL) (n := 58) (ds := []) (v := .agg [.fn 74 [] []]) (L1)
    have q19 := JO.call (LP := zL) (ds := [vG.enc a0, .agg [.fn 74 [] []]]) (QQ h16)
    refine Ra hl hf ?_
    rintro g17 s r hl hf
    cases oK k3
    exact ⟨Or.inr rfl, hl, BJ (CU r.1 rfl) (AL r.2.1)⟩
   have q21 := @KN
   refine Ra hl hf ?_
   rintro g20 s r hl hf
   cases oK k2
   exact ⟨Or.inr rfl, hl, BJ (CU r.1 rfl) (AL r.2.1)⟩
  have q23 := @KN
  refine Ra hl hf ?_
  rintro g22 s r hl hf
  cases oK k1
  exact ⟨Or.inr rfl, hl, BJ (CU r.1 rfl) (AL r.2.1)⟩
 have q25 := @KN
 refine Ra hl hf ?_
 rintro g24 s r hl hf
 cases oK k1
 exact ⟨Or.inr rfl, hl, BJ (CU r.1 rfl) (AL r.2.1)⟩
def Df := fun a0 a1 => Cq.mk (@WL a0 a1)
theorem cJ {a0 : BenchBook} {a1 : Int} {a2 : Int} {r : ((Sl Int) × Int)} (k0 : HC a0 a1 a2 = some r) : Fin zL 9 [vG.enc a0, .int a1, .int a2] (vG.enc r) := by
 unfold HC at k0; replace k0 := kq k0
 refine vF di dc ?_
 rintro low s r hl hf
 have q23 := @Df
 have q24 := @IT
 have q25 := @JK
 refine Ra hl hf ?_
 rintro g1 s r hl hf
 obtain ⟨⟨o9, uo⟩, q, k1⟩ := uT k0
 try dsimp only at k1
 refine Rq (fun g12 => [C_ 8 (g12 + 1 + 1 + 1 + 1 + 1 + 1 + 1 + 1 + 1 + 1 + 1 + 1 + 1 + 1 + 1 + 1 + 1 + 1 + 1 + 1) o9, I_ 9 uo]) hl hf q ?_
 rintro g12 s r hl hf
 refine Ra hl hf ?_
 rintro g13 s r hl hf
 refine NF r.2.2.2.2.1 k1 (fun c14 k1 => ?_) fun c14 k1 => ?_
 ·have q16 := @EZ
  have q17 := fun s ro => ZQ (n := 2) s ro o9.able (AI.mk a1 a2) (Sl.nil : (Sl Int)) (.nils) rfl (by decide) rfl
  refine Ra hl hf ?_
  rintro g15 s r hl hf
  obtain ⟨v18, h19, k2⟩ := uT k1
  have q21 := IA (sz := 1) rfl h19
  refine Ra hl hf ?_
  rintro g20 s r hl hf
  cases oK k2
  exact ⟨Or.inr rfl, hl, BJ (Zu r.1) (AL r.2.1)⟩
 refine Ra hl hf ?_
 rintro g22 s r hl hf
 cases oK k1
 exact ⟨Or.inr rfl, hl, BJ (AL r.1) (AL r.2.1)⟩
def OD := fun a0 a1 a2 => Cq.mk (@cJ a0 a1 a2)
theorem SY {a0 : (Sl Int)} {a1 : Int} {r : Bool} (k0 : Dc a0 a1 = some r) : Fin zL 11 [vG.enc a0, .int a1] (.bool r) := by
 unfold Dc at k0; replace k0 := kq k0
 refine vF H7 Lx ?_
 rintro low s r hl hf
 have q22 := @LY
 refine Ra hl hf ?_
 rintro g1 s r hl hf
 refine Ra hl hf ?_
 rintro g2 s r hl hf
 refine uh ?_
 obtain ⟨o5, l6, k1⟩ := uT k0
 refine A9 (f := Bt a0 a1) (E := fun (x : Int) s => DW [E_ 0 a0, I_ 1 a1, I_ 5 x] s ∧ s.low = low ∧ uY H7 s) (Q := fun (o : ((Bool) ⊕ (Unit))) j s => match o with | .inl w4 => j = .ret ∧ ul Lx.1 low (.d (.bool w4)) .ret s | .inr _ => j = .exit 0 ∧ DW [] s ∧ s.low = low ∧ uY H7 s) l6 ?_ ⟨r, hl, hf⟩ ?_
 ·rintro x3 s out ⟨r, hl, hf⟩ k2
  unfold Bt at k2
  refine Ra hl hf ?_
  rintro g7 s r hl hf
  refine E2 r.2.2.2.1 k2 (fun c8 k2 => ?_) fun c8 k2 => ?_
  ·refine uh ?_
   obtain ⟨uk, q, k3⟩ := uT k2
   refine Rq (fun g17 => [B_ 35 uk]) hl hf q ?_
   rintro g17 s r hl hf
   refine E2 r.2.2.2.1 k3 (fun c18 k3 => ?_) fun c18 k3 => ?_
   ·refine Ra hl hf ?_
    rintro g19 s r hl hf
    obtain rfl := oK k3
    exact ⟨by decide, ⟨rfl, ⟨Or.inr rfl, hl, AO (AL r.1)⟩⟩⟩
   refine Ra hl hf ?_
   rintro g20 s r hl hf
   obtain rfl := oK k3
   exact ⟨rfl, r, hl, hf⟩
  obtain rfl := oK k2
  exact ⟨by decide, ⟨rfl, trivial, hl, hf⟩⟩
 intro j s hq
 rcases o5 with w4 | _
 ·try dsimp only at k1 hq
  obtain ⟨rfl, hq⟩ := hq
  cases oK k1
  exact hq
 try dsimp only at k1 hq
 obtain ⟨rfl, -, hl, hf⟩ := hq
 refine Ra hl hf ?_
 rintro g21 s r hl hf
 cases oK k1
 exact ⟨Or.inr rfl, hl, AO (AL r.1)⟩
def Lr := fun a0 a1 => Cq.mk (@SY a0 a1)
theorem Vl {a0 : (Sl Int)} {a1 : Int} {r : Int} (k0 : Gp a0 a1 = some r) : Fin zL 12 [vG.enc a0, .int a1] (.int r) := by
 unfold Gp at k0; replace k0 := kq k0
 refine vF KT P2 ?_
 rintro low s r hl hf
 refine Ra hl hf ?_
 rintro g1 s r hl hf
 refine Ra hl hf ?_
 rintro g2 s r hl hf
 refine uh ?_
 obtain ⟨o5, l6, k1⟩ := uT k0
 refine A9 (f := Bi a0 a1) (E := fun (x : Int) s => DW [E_ 0 a0, I_ 1 a1, I_ 5 x] s ∧ s.low = low ∧ uY KT s) (Q := fun (o : ((Int) ⊕ (Unit))) j s => match o with | .inl w4 => j = .ret ∧ ul P2.1 low (.d (.int w4)) .ret s | .inr _ => j = .exit 0 ∧ DW [] s ∧ s.low = low ∧ uY KT s) l6 ?_ ⟨r, hl, hf⟩ ?_
 ·rintro x3 s out ⟨r, hl, hf⟩ k2
  unfold Bi at k2
  refine Ra hl hf ?_
  rintro g7 s r hl hf
  refine E2 r.2.2.2.1 k2 (fun c8 k2 => ?_) fun c8 k2 => ?_
  ·refine uh ?_
   obtain ⟨v9, h10, k3⟩ := uT k2
   refine Ra hl hf ?_
   rintro g11 s r hl hf
   refine E2 r.2.2.2.1 k3 (fun c12 k3 => ?_) fun c12 k3 => ?_
   ·refine Ra hl hf ?_
    rintro g13 s r hl hf
    obtain rfl := oK k3
    exact ⟨by decide, ⟨rfl, ⟨Or.inr rfl, hl, AO (AL r.1)⟩⟩⟩
   refine Ra hl hf ?_
   rintro g14 s r hl hf
   obtain rfl := oK k3
   exact ⟨rfl, r, hl, hf⟩
  obtain rfl := oK k2
  exact ⟨by decide, ⟨rfl, trivial, hl, hf⟩⟩
 intro j s hq
 rcases o5 with w4 | _
 ·try dsimp only at k1 hq
  obtain ⟨rfl, hq⟩ := hq
  cases oK k1
  exact hq
 try dsimp only at k1 hq
 obtain ⟨rfl, -, hl, hf⟩ := hq
 refine Ra hl hf ?_
 rintro g15 s r hl hf
 cases oK k1
 exact ⟨Or.inr rfl, hl, AO (AL r.1)⟩
def Oq := fun a0 a1 => Cq.mk (@Vl a0 a1)
theorem Uh (a0 : Int) (a1 : Int) : Fin zL 80 [.int a0, .int a1] (vG.enc (Db a0 a1)) := by
 refine vF WT W3 ?_
 rintro low s r hl hf
 have q2 := @pC
 refine Ra hl hf ?_
 rintro g1 s r hl hf
 have q4 := @Ro
 refine Ra hl hf ?_
 rintro g3 s r hl hf
 exact ⟨Or.inr rfl, hl, AO (CU r.1 rfl)⟩
def NL := fun a0 a1 => (Uh a0 a1).call
theorem ZC (a0 : Int) : Fin zL 81 [.int a0] (vG.enc (M4 a0)) := by
 refine vF aJ ax ?_
 rintro low s r hl hf
 have q2 := @pC
 refine Ra hl hf ?_
 rintro g1 s r hl hf
 have q4 := @Ro
 refine Ra hl hf ?_
 rintro g3 s r hl hf
 exact ⟨Or.inr rfl, hl, AO (CU r.1 rfl)⟩
def av := fun a0 => (ZC a0).call
theorem UA (a0 : (Sl AE)) : Fin zL 66 [vG.enc a0] (vG.enc (RA a0)) := by
 refine vF Wj Vn ?_
 rintro low s r hl hf
 have q4 := @NL
 have q5 := @av
 have q2 := @eD
 refine Ra hl hf ?_
 rintro g1 s r hl hf
 refine Ra hl hf ?_
 rintro g3 s r hl hf
 exact ⟨Or.inr rfl, hl, AO (CU r.1 rfl)⟩
def V7 := fun a0 => (UA a0).call
theorem cB (a0 : Int) (a1 : Int) : Fin zL 67 [.int a0, .int a1] (vG.enc (LR a0 a1)) := by
 refine vF eq ef ?_
 rintro low s r hl hf
 have q4 := @NL
 have q2 := @eu
 refine Ra hl hf ?_
 rintro g1 s r hl hf
 refine Ra hl hf ?_
 rintro g3 s r hl hf
 exact ⟨Or.inr rfl, hl, AO (CU r.1 rfl)⟩
def eX := fun a0 a1 => (cB a0 a1).call
theorem Hq (a0 : Int) (a1 : Int) (a2 : (Sl AE)) : Fin zL 51 [.int a0, .int a1, vG.enc a2] (vG.enc (NA a0 a1 a2)) := by
 refine vF bH aA ?_
 rintro low s r hl hf
 have q4 := @eX
 have q5 := @V7
 have q2 := @Kx
 refine Ra hl hf ?_
 rintro g1 s r hl hf
 refine Ra hl hf ?_
 rintro g3 s r hl hf
 exact ⟨Or.inr rfl, hl, AO (CU r.1 rfl)⟩
def og := fun a0 a1 a2 => (Hq a0 a1 a2).call
theorem aO : Fin zL 22 [] (vG.enc (Bn)) := by
 refine vF er dx ?_
 rintro low s - hl hf
 have q2 := @Kx
 refine Ra hl hf ?_
 rintro g1 s r hl hf
 have q4 := Fin.call (LP := zL) (ds := [.int 1, .int 20, .nils]) (Hq 1 20 (Sl.nil : (Sl AE)))
 refine Ra hl hf ?_
 rintro g3 s r hl hf
 exact ⟨Or.inr rfl, hl, AO (CU r.1 rfl)⟩
def ek := aO.call
theorem ZF : Fin zL 24 [] (vG.enc (Ek)) := by
 refine vF dK cN ?_
 rintro low s - hl hf
 have q2 := @Kx
 refine Ra hl hf ?_
 rintro g1 s r hl hf
 have q4 := Fin.call (LP := zL) (ds := [.int 1, .int 24, .nils]) (Hq 1 24 (Sl.nil : (Sl AE)))
 refine Ra hl hf ?_
 rintro g3 s r hl hf
 exact ⟨Or.inr rfl, hl, AO (CU r.1 rfl)⟩
def aH := ZF.call
theorem OL {a0 : AB} {a1 : (Sl Int)} {a2 : Int} {r : (Sl AH)} (k0 : BV a0 a1 a2 = some r) : Fin zL 53 [vG.enc a0, vG.enc a1, .int a2] (vG.enc r) := by
 unfold BV at k0; replace k0 := kq k0
 refine vF Dj P5 ?_
 rintro low s r hl hf
 refine Ra hl hf ?_
 rintro g1 s r hl hf
 refine Ra hl hf ?_
 rintro g2 s r hl hf
 refine Ra hl hf ?_
 rintro g3 s r hl hf
 refine uh ?_
 obtain ⟨o7, l8, k1⟩ := uT k0
 refine A9 (f := CB a0 a1 a2) (E := fun (x : (Sl AH) × Int) s => DW [I_ 2 a2, C_ 3 g1 a0, (7, .v (Sl.lv x.1)), E_ 12 a1, I_ 13 a1.len, I_ 14 x.2] s ∧ s.low = low ∧ uY Dj s) (Q := fun (y6 : (Sl AH)) j s => j = .exit 0 ∧ DW [C_ 3 g1 a0, (7, .v (Sl.lv y6))] s ∧ s.low = low ∧ uY Dj s) l8 ?_ ⟨r, hl, hf⟩ ?_
 ·rintro ⟨x4, x5⟩ s out ⟨r, hl, hf⟩ k2
  dsimp only at r
  simp only [CB] at k2
  refine Ra hl hf ?_
  rintro g9 s r hl hf
  refine E2 r.2.2.2.2.2.2.1 k2 (fun c10 k2 => ?_) fun c10 k2 => ?_
  ·refine uh ?_
   obtain ⟨v11, h12, k3⟩ := uT k2
   refine Ra hl hf ?_
   rintro g13 s r hl hf
   obtain ⟨v14, h15, k4⟩ := uT k3
   obtain ⟨v16, h17, k5⟩ := uT k4
   have q19 := @dm
   have q20 := nX (sz := 3) rfl h17
   refine Ra hl hf ?_
   rintro g18 s r hl hf
   refine uh ?_
   obtain ⟨o24, l25, k6⟩ := uT k5
   refine A9 (f := B6 v11 v16) (E := fun (x : (Sl AH) × Int) s => DW [I_ 2 a2, C_ 3 g1 a0, (7, .v (Sl.lv x.1)), I_ 9 v11, E_ 12 a1, I_ 13 a1.len, I_ 14 x5, E_ 35 v16, I_ 36 v16.len, I_ 37 x.2] s ∧ s.low = low ∧ uY Dj s) (Q := fun (y23 : (Sl AH)) j s => j = .exit 2 ∧ DW [I_ 2 a2, C_ 3 g1 a0, (7, .v (Sl.lv y23)), E_ 12 a1, I_ 13 a1.len, I_ 14 x5] s ∧ s.low = low ∧ uY Dj s) l25 ?_ ⟨r, hl, hf⟩ ?_
   ·rintro ⟨x21, x22⟩ s out ⟨r, hl, hf⟩ k7
    dsimp only at r
    simp only [B6] at k7
    refine Ra hl hf ?_
    rintro g26 s r hl hf
    refine E2 r.2.2.2.2.2.2.2.2.2.2.1 k7 (fun c27 k7 => ?_) fun c27 k7 => ?_
    ·refine uh ?_
     obtain ⟨v28, h29, k8⟩ := uT k7
     refine Ra hl hf ?_
     rintro g30 s r hl hf
     obtain ⟨v31, h32, k9⟩ := uT k8
     have q34 := @EZ
     have q35 := GQ (sz := 4) (x := x21) (y := (Sl.cold [(AH.mk (AI.mk v11 x22) v28.Many 0)] : Sl AH)) rfl rfl h32
     refine Ra hl hf ?_
     rintro g33 s r hl hf
     refine Ra hl hf ?_
     rintro g36 s r hl hf
     obtain rfl := oK k9
     exact ⟨rfl, r, hl, hf⟩
    obtain rfl := oK k7
    exact ⟨by decide, ⟨rfl, ⟨r.1, r.2.1, r.2.2.1, r.2.2.2.2.1, r.2.2.2.2.2.1, r.2.2.2.2.2.2.1, trivial⟩, hl, hf⟩⟩
   intro j s hq
   obtain ⟨y23, rfl⟩ : ∃ x, x = o24 := ⟨_, rfl⟩
   try dsimp only at k6 hq
   obtain ⟨rfl, r, hl, hf⟩ := hq
   refine Ra hl hf ?_
   rintro g37 s r hl hf
   obtain rfl := oK k6
   exact ⟨rfl, r, hl, hf⟩
  obtain rfl := oK k2
  exact ⟨by decide, ⟨rfl, ⟨r.2.1, r.2.2.1, trivial⟩, hl, hf⟩⟩
 intro j s hq
 obtain ⟨y6, rfl⟩ : ∃ x, x = o7 := ⟨_, rfl⟩
 try dsimp only at k1 hq
 obtain ⟨rfl, r, hl, hf⟩ := hq
 refine Ra hl hf ?_
 rintro g38 s r hl hf
 cases oK k1
 exact ⟨Or.inr rfl, hl, AO (Zm r.1)⟩
def DZ := fun a0 a1 a2 => Cq.mk (@OL a0 a1 a2)
theorem Gt {low : List Fr} (a0 : AB) (a1 : (Sl AH)) : JO zL 54 [.d (vG.enc a0), .d (vG.enc a1)] low (.d (.fn 68 [] [.fptr (vG.cells a0) 0, .fptr [vG.enc a1] 0])) := by
 refine en S0 SC ?_
 rintro s r hl hf
 refine Ra hl hf ?_
 rintro g1 s r hl hf
 refine Ra hl hf ?_
 rintro g2 s r hl hf
 exact ⟨Or.inr rfl, hl, lb (by simp only [bW, r, Ej, HJ, Lt, hl]; simp only [rF, sq, oD, pE, Xx, Z9, ff, gB, dL, Xb, Yx, Of, O3, P0, S9, iU, NB, XZ, QE, Option.map_some, Option.map_none, AA.lc, AB.lc, dB (show uI.get 2 s.env = _ from r.1), dB (show uI.get 3 s.env = _ from r.2.1)])⟩
theorem Hw : Fin zL 72 [] (vG.enc (Bo)) := by
 refine vF aE cr ?_
 rintro low s - hl hf
 have q2 := @UG
 refine Ra hl hf ?_
 rintro g1 s r hl hf
 have q4 := @UG
 refine Ra hl hf ?_
 rintro g3 s r hl hf
 refine Ra hl hf ?_
 rintro g5 s r hl hf
 exact ⟨Or.inr rfl, hl, AO (CU r.1 rfl)⟩
def aY := Hw.call
theorem Ho {low : List Fr} (a0 : AC) (a1x : AH) (a2x : Int) {pja1 : Nat} {pta1 : Nat} {pga1 : Nat} {pja2 : Nat} {pta2 : Nat} {pga2 : Nat} (ba1 : HD low pja1 pta1 = some (.box pga1 ((vG.cells a1x).map LV.d))) (ba2 : HD low pja2 pta2 = some (.box pga2 [.d (.int a2x)])) : JO zL 71 [.d (vG.enc a0), .ptr pja1 pta1 pga1 0, .ptr pja2 pta2 pga2 0] low (.d (.bool (CH a0 a1x a2x))) := by
 refine en JC JL ?_
 rintro s r hl hf
 refine Ra hl hf ?_
 rintro g1 s r hl hf
 have q5 := EE ba1
 have q6 := EE ba2
 refine Rx (fun g4 => [B_ 4 ((decide (a0.Piece = a1x.at_.piece)) && (decide (a0.Boy = a2x)))]) hl hf ?_
 rintro g4 s r hl hf
 exact ⟨Or.inr rfl, hl, AO (AL r.1)⟩
theorem MO {low : List Fr} {a0 : (Sl AC)} {a1c0x : AH} {a1c1x : Int} {pja1c0 : Nat} {pta1c0 : Nat} {pga1c0 : Nat} {pja1c1 : Nat} {pta1c1 : Nat} {pga1c1 : Nat} (ba1c0 : HD low pja1c0 pta1c0 = some (.box pga1c0 ((vG.cells a1c0x).map LV.d))) (ba1c1 : HD low pja1c1 pta1c1 = some (.box pga1c1 [.d (.int a1c1x)])) {r : Int} (k0 : Ea a0 a1c0x a1c1x = some r) : JO zL 82 [.d (vG.enc a0), .fn 71 [] [.ptr pja1c0 pta1c0 pga1c0 0, .ptr pja1c1 pta1c1 pga1c1 0]] low (.d (.int r)) := by
 unfold Ea at k0; replace k0 := kq k0
 refine en F2 Ik ?_
 rintro s r hl hf
 refine Ra hl hf ?_
 rintro g1 s r hl hf
 refine Ra hl hf ?_
 rintro g2 s r hl hf
 refine uh ?_
 obtain ⟨o5, l6, k1⟩ := uT k0
 refine A9 (f := BA a0 a1c0x a1c1x) (E := fun (x : Int) s => DW [E_ 0 a0, (1, .v (.fn 71 [] [.ptr pja1c0 pta1c0 pga1c0 0, .ptr pja1c1 pta1c1 pga1c1 0])), I_ 7 a0.len, I_ 8 x] s ∧ s.low = low ∧ uY F2 s) (Q := fun (o : ((Int) ⊕ (Unit))) j s => match o with | .inl w4 => j = .ret ∧ ul Ik.1 low (.d (.int w4)) .ret s | .inr _ => j = .exit 0 ∧ DW [] s ∧ s.low = low ∧ uY F2 s) l6 ?_ ⟨r, hl, hf⟩ ?_
 ·rintro x3 s out ⟨r, hl, hf⟩ k2
  unfold BA at k2
  refine Ra hl hf ?_
  rintro g7 s r hl hf
  refine E2 r.2.2.2.2.1 k2 (fun c8 k2 => ?_) fun c8 k2 => ?_
  ·refine uh <| Ra hl hf ?_
   rintro g9 s r hl hf
   obtain ⟨v10, h11, k3⟩ := uT k2
   have f12 : ∀ (e : uI) (c : Nat), (om zL).call 71 [.d (vG.enc v10), .ptr pja1c0 pta1c0 pga1c0 0, .ptr pja1c1 pta1c1 pga1c1 0] (low ++ [⟨e, none⟩]) c = some (.d (.bool ((CH v10 a1c0x a1c1x))), low ++ [⟨e, none⟩], QZ zL 71 [.d (vG.enc v10), .ptr pja1c0 pta1c0 pga1c0 0, .ptr pja1c1 pta1c1 pga1c1 0] (low ++ [⟨e, none⟩]) c) := fun e c => JO.om (Ho v10 a1c0x a1c1x (F6 ba1c0) (F6 ba1c1)) c
   have q14 := @f12
   refine Ra hl hf ?_
   rintro g13 s r hl hf
   refine E2 r.2.2.2.2.2.1 k3 (fun c15 k3 => ?_) fun c15 k3 => ?_
   ·refine Ra hl hf ?_
    rintro g16 s r hl hf
    obtain rfl := oK k3
    exact ⟨by decide, ⟨rfl, ⟨Or.inr rfl, hl, AO (AL r.1)⟩⟩⟩
   refine Ra hl hf ?_
   rintro g17 s r hl hf
   obtain rfl := oK k3
   exact ⟨rfl, r, hl, hf⟩
  obtain rfl := oK k2
  exact ⟨by decide, ⟨rfl, trivial, hl, hf⟩⟩
 intro j s hq
 rcases o5 with w4 | _
 ·try dsimp only at k1 hq
  obtain ⟨rfl, hq⟩ := hq
  cases oK k1
  exact hq
 try dsimp only at k1 hq
 obtain ⟨rfl, -, hl, hf⟩ := hq
 refine Ra hl hf ?_
 rintro g18 s r hl hf
 cases oK k1
 exact ⟨Or.inr rfl, hl, AO (AL r.1)⟩
theorem Dy {low : List Fr} {a0 : (Sl AC)} {a1c0x : AH} {a1c1x : Int} {pja1c0 : Nat} {pta1c0 : Nat} {pga1c0 : Nat} {pja1c1 : Nat} {pta1c1 : Nat} {pga1c1 : Nat} (ba1c0 : HD low pja1c0 pta1c0 = some (.box pga1c0 ((vG.cells a1c0x).map LV.d))) (ba1c1 : HD low pja1c1 pta1c1 = some (.box pga1c1 [.d (.int a1c1x)])) {r : Bool} (k0 : Bc a0 a1c0x a1c1x = some r) : JO zL 70 [.d (vG.enc a0), .fn 71 [] [.ptr pja1c0 pta1c0 pga1c0 0, .ptr pja1c1 pta1c1 pga1c1 0]] low (.d (.bool r)) := by
 unfold Bc at k0; replace k0 := kq k0
 refine en MH MA ?_
 rintro s r hl hf
 refine Ra hl hf ?_
 rintro g1 s r hl hf
 obtain ⟨v2, h3, k1⟩ := uT k0
 have f4 : ∀ (e : uI) (c : Nat), (om zL).call 82 [.d (vG.enc a0), .fn 71 [] [.ptr pja1c0 pta1c0 pga1c0 0, .ptr pja1c1 pta1c1 pga1c1 0]] (low ++ [⟨e, none⟩]) c = some (.d (.int (v2)), low ++ [⟨e, none⟩], QZ zL 82 [.d (vG.enc a0), .fn 71 [] [.ptr pja1c0 pta1c0 pga1c0 0, .ptr pja1c1 pta1c1 pga1c1 0]] (low ++ [⟨e, none⟩]) c) := fun e c => JO.om (MO (F6 ba1c0) (F6 ba1c1) h3) c
 have q6 := @f4
 refine Ra hl hf ?_
 rintro g5 s r hl hf
 cases oK k1
 exact ⟨Or.inr rfl, hl, AO (AL r.1)⟩
theorem I9 {σ : Type} {yf : (Sl AC) → σ → Option (Bool × σ)} (n : Nat) : ∀ (R : σ → List Fr → Prop) (N : Nat), (∀ s low, R s low → low.length = N) → ∀ (yj yg : Nat), GX zL R yj yg (fun (x : (Sl AC)) => [.d (vG.enc x)]) yf → ∀ (a0 : (Sl AC)) (a1 : (Sl AH)) (a2 : (Ar 24 Int)) (a5 : AB) (pja3 : Nat) (pta3 : Nat) (pga3 : Nat) (pja4 : Nat) (pta4 : Nat) (pga4 : Nat), (∀ st low, R st low → HD low pja3 pta3 = some (.box pga3 [.yield yj yg])) → (∀ st low, R st low → HD low pja4 pta4 = some (.box pga4 [.fn 69 [] [.ptr pja3 pta3 pga3 0, .ptr pja4 pta4 pga4 0, .d (.fptr (vG.cells a5) 0)]])) → ∀ (low : List Fr) (st : σ), R st low → ∀ r : Bool × σ, AY yf n a0 a1 a2 a5 st = some r → ib zL 69 [.d (vG.enc a0), .d (vG.enc a1), .d (vG.enc a2), .ptr pja3 pta3 pga3 0, .ptr pja4 pta4 pga4 0, .d (.fptr (vG.cells a5) 0)] R low (.d (.bool r.1)) r.2 := by
 induction n with
 | zero => intro R N hN yj yg hy a0 a1 a2 a5 pja3 pta3 pga3 pja4 pta4 pga4 ba3S ba4S low st hR r k0; simp [AY] at k0
 | succ n ih =>
  intro R N hN yj yg hy a0 a1 a2 a5 pja3 pta3 pga3 pja4 pta4 pga4 ba3S ba4S low st hR r k0
  simp only [AY] at k0; replace k0 := kq k0
  refine rz BR GV ?_
  rintro s r hl hf
  have q80 := @aY
  have hlN : low.length = N := hN _ _ hR
  have ba3 := ba3S _ _ hR
  have ba4 := ba4S _ _ hR
  refine Ra hl hf ?_
  rintro g1 s r hl hf
  refine Ra hl hf ?_
  rintro g2 s r hl hf
  refine E2 r.2.2.2.2.2.2.1 k0 (fun c3 k0 => ?_) fun c3 k0 => ?_
  ·obtain ⟨⟨v4, t5⟩, h6, k1⟩ := uT k0
   dsimp only at k1
   refine regS (B := BR) (low := low) (Q := R t5) [B_ 9 v4] hl hf ?_ ?_
   ·have f7 : ∀ (fr : Fr) (c : Nat), (om zL).round yj yg [.d (vG.enc a0)] (low ++ [fr]) c = some (v4, mF zL yj yg [.d (vG.enc a0)] (low ++ [fr]) c ++ [fr], qm zL yj yg [.d (vG.enc a0)] (low ++ [fr]) c) ∧ R t5 (mF zL yj yg [.d (vG.enc a0)] (low ++ [fr]) c) ∧ (mF zL yj yg [.d (vG.enc a0)] (low ++ [fr]) c).length = low.length := fun fr c => hy.om hN hR h6 fr c
    simp only [rs, gk, Cj, hl, uD hf, hlN, r, (EE ba3), (fun fr c => (f7 fr c).1), (fun fr c => (f7 fr c).2.1), (fun fr c => (f7 fr c).2.2), reduceCtorEq, Nat.reduceEqDiff, Nat.reduceAdd]
   rintro s r hR0 hf
   obtain ⟨low, hl⟩ : ∃ l, s.low = l := ⟨_, rfl⟩
   rw [hl] at hR0
   have hR := hR0
   have hlN : low.length = N := hN _ _ hR
   have ba3 := ba3S _ _ hR
   have ba4 := ba4S _ _ hR
   cases oK k1
   exact ⟨Or.inr rfl, (by rw [hl]; exact hR), AO (AL r.1)⟩
  obtain ⟨v8, h9, k2⟩ := uT k0
  refine Ra hl hf ?_
  rintro g10 s r hl hf
  refine E2 r.2.2.2.2.2.1 k2 (fun c11 k2 => ?_) fun c11 k2 => ?_
  ·obtain ⟨v12, h13, k3⟩ := uT k2
   obtain ⟨⟨v14, t15⟩, h16, k4⟩ := uT k3
   dsimp only at k4
   refine regS (B := BR) (low := low) (Q := R t15) [B_ 9 v14] hl hf ?_ ?_
   ·have f17 : ∀ (e : uI) (c : Nat), (om zL).call 69 [.d (vG.enc a0), .d (vG.enc v12), .d (vG.enc a2), .ptr pja3 pta3 pga3 0, .ptr pja4 pta4 pga4 0, .d (.fptr (vG.cells a5) 0)] (low ++ [⟨e, none⟩]) c = some (.d (.bool v14), XI zL 69 [.d (vG.enc a0), .d (vG.enc v12), .d (vG.enc a2), .ptr pja3 pta3 pga3 0, .ptr pja4 pta4 pga4 0, .d (.fptr (vG.cells a5) 0)] (low ++ [⟨e, none⟩]) c ++ [⟨e, none⟩], QZ zL 69 [.d (vG.enc a0), .d (vG.enc v12), .d (vG.enc a2), .ptr pja3 pta3 pga3 0, .ptr pja4 pta4 pga4 0, .d (.fptr (vG.cells a5) 0)] (low ++ [⟨e, none⟩]) c) ∧ R t15 (XI zL 69 [.d (vG.enc a0), .d (vG.enc v12), .d (vG.enc a2), .ptr pja3 pta3 pga3 0, .ptr pja4 pta4 pga4 0, .d (.fptr (vG.cells a5) 0)] (low ++ [⟨e, none⟩]) c) ∧ (XI zL 69 [.d (vG.enc a0), .d (vG.enc v12), .d (vG.enc a2), .ptr pja3 pta3 pga3 0, .ptr pja4 pta4 pga4 0, .d (.fptr (vG.cells a5) 0)] (low ++ [⟨e, none⟩]) c).length = low.length := fun e c => ib.om hN hR (ih (mS R ⟨e, none⟩) (N + 1) (QJ hN _) yj yg (hy.push _) a0 v12 a2 a5 _ _ _ _ _ _ (FX ba3S _) (FX ba4S _) _ _ ⟨low, rfl, hR⟩ _ h16) c
    simp only [rs, ps, GR, HU, Cj, hl, uD hf, hlN, r, (EE ba4), (gJ (sz := 4) rfl h13), (fun e c => (f17 e c).1), (fun e c => (f17 e c).2.1), (fun e c => (f17 e c).2.2), reduceCtorEq, Nat.reduceEqDiff, Nat.reduceAdd]
   rintro s r hR0 hf
   obtain ⟨low, hl⟩ : ∃ l, s.low = l := ⟨_, rfl⟩
   rw [hl] at hR0
   have hR := hR0
   have hlN : low.length = N := hN _ _ hR
   have ba3 := ba3S _ _ hR
   have ba4 := ba4S _ _ hR
   cases oK k4
   exact ⟨Or.inr rfl, (by rw [hl]; exact hR), AO (AL r.1)⟩
  obtain ⟨v18, h19, k5⟩ := uT k2
  try clear h9
  refine Ra hl hf ?_
  rintro g20 s r hl hf
  have q22 := fun s ro => ZQ (n := 2) s ro a5.able v18.at_ (Sl.nil : (Sl Int)) (.nils) rfl (by decide) rfl
  refine Ra hl hf ?_
  rintro g21 s r hl hf
  refine Ra hl hf ?_
  rintro g23 s r hl hf
  refine uh ?_
  obtain ⟨o28, l29, k6⟩ := uT k5
  refine A9 (f := Am (AY yf n) a0 a1 a2 a5 v18) (E := fun (x : σ × Int) s => DW [E_ 0 a0, E_ 1 a1, (4, .v (.ptr pja4 pta4 pga4 0)), (5, .v (.d (.fptr (vG.cells a5) 0))), C_ 8 g1 a2, C_ 10 (g20 + 1 + 1 + 1 + 1 + 1) v18, I_ 11 a0.len, E_ 12 ((Mp.get a5.able (BZ.key v18.at_)).getD (Sl.nil : (Sl Int))), I_ 13 x.2] s ∧ R x.1 s.low ∧ uY BR s) (Q := fun (o : ((Bool × σ) ⊕ (σ))) j s => match o with | .inl w26 => j = .ret ∧ rq GV.1 R w26.2 (.d (.bool w26.1)) .ret s | .inr y27 => j = .exit 0 ∧ DW [C_ 8 g1 a2, C_ 10 (g20 + 1 + 1 + 1 + 1 + 1) v18] s ∧ R y27 s.low ∧ uY BR s) l29 ?_ ⟨r, (by rw [hl]; exact hR), hf⟩ ?_
  ·rintro ⟨x24, x25⟩ s out ⟨r, hR0, hf⟩ k7
   dsimp only at hR0 r
   obtain ⟨low, hl⟩ : ∃ l, s.low = l := ⟨_, rfl⟩
   rw [hl] at hR0
   have hR := hR0
   have hlN : low.length = N := hN _ _ hR
   have ba3 := ba3S _ _ hR
   have ba4 := ba4S _ _ hR
   simp only [Am] at k7
   refine Ra hl hf ?_
   rintro g30 s r hl hf
   refine E2 r.2.2.2.2.2.2.2.2.2.1 k7 (fun c31 k7 => ?_) fun c31 k7 => ?_
   ·refine uh ?_
    obtain ⟨v32, h33, k8⟩ := uT k7
    refine Ra hl hf ?_
    rintro g34 s r hl hf
    obtain ⟨v35, h36, k9⟩ := uT k8
    refine Ra hl hf ?_
    rintro g37 s r hl hf
    obtain ⟨o45, q46, k10⟩ := uT k9
    refine gY [E_ 0 a0, E_ 1 a1, (4, .v (.ptr pja4 pta4 pga4 0)), (5, .v (.d (.fptr (vG.cells a5) 0))), C_ 8 g1 a2, C_ 10 (g20 + 1 + 1 + 1 + 1 + 1) v18, I_ 11 a0.len, E_ 12 ((Mp.get a5.able (BZ.key v18.at_)).getD (Sl.nil : (Sl Int))), I_ 13 x25, N_ 14 (g34 + 1 + 1 + 1 + 1) v32, I_ 15 (W ((W (v35.Week * 4)) + v32)), B_ 85 o45] hl hf ?_ ?_
    ·obtain ⟨v38, h39, q77⟩ := t3 q46
     by_cases c41 : v38 = true
     ·rw [if_pos c41] at q77
      have e1 := oI q77
      have f40 : ∀ (e : uI) (c : Nat) (z0 : uI.get 10 e = some (.box (g20 + 1 + 1 + 1 + 1 + 1) ((vG.cells v18).map LV.d))) (z1 : uI.get 14 e = some (.box (g34 + 1 + 1 + 1 + 1) [.d (.int v32)])), (om zL).call 70 [.d (vG.enc a0), .fn 71 [] [.ptr N 10 (g20 + 1 + 1 + 1 + 1 + 1) 0, .ptr N 14 (g34 + 1 + 1 + 1 + 1) 0]] (low ++ [⟨e, none⟩]) c = some (.d (.bool (v38)), low ++ [⟨e, none⟩], QZ zL 70 [.d (vG.enc a0), .fn 71 [] [.ptr N 10 (g20 + 1 + 1 + 1 + 1 + 1) 0, .ptr N 14 (g34 + 1 + 1 + 1 + 1) 0]] (low ++ [⟨e, none⟩]) c) := fun e c z0 z1 => JO.om (Dy (JX hlN z0) (JX hlN z1) h39) c
      simp only [rs, ps, IX, IQ, hl, uD hf, hlN, r, f40, c41, ← e1, reduceCtorEq, Nat.reduceEqDiff, Nat.reduceAdd]
     rw [if_neg c41] at q77
     have c41 := eq_false_of_ne_true c41
     by_cases c42 : (decide (BZ.key a2 = BZ.key Bo)) = true
     ·rw [if_pos c42] at q77
      have e1 := oI q77
      have f40 : ∀ (e : uI) (c : Nat) (z0 : uI.get 10 e = some (.box (g20 + 1 + 1 + 1 + 1 + 1) ((vG.cells v18).map LV.d))) (z1 : uI.get 14 e = some (.box (g34 + 1 + 1 + 1 + 1) [.d (.int v32)])), (om zL).call 70 [.d (vG.enc a0), .fn 71 [] [.ptr N 10 (g20 + 1 + 1 + 1 + 1 + 1) 0, .ptr N 14 (g34 + 1 + 1 + 1 + 1) 0]] (low ++ [⟨e, none⟩]) c = some (.d (.bool (v38)), low ++ [⟨e, none⟩], QZ zL 70 [.d (vG.enc a0), .fn 71 [] [.ptr N 10 (g20 + 1 + 1 + 1 + 1 + 1) 0, .ptr N 14 (g34 + 1 + 1 + 1 + 1) 0]] (low ++ [⟨e, none⟩]) c) := fun e c z0 z1 => JO.om (Dy (JX hlN z0) (JX hlN z1) h39) c
      simp only [rs, ps, IX, IQ, hl, uD hf, hlN, r, f40, c41, (Hw).call, c42, ← e1, reduceCtorEq, Nat.reduceEqDiff, Nat.reduceAdd]
     rw [if_neg c42] at q77
     have c42 := eq_false_of_ne_true c42
     obtain ⟨v43, h44, q78⟩ := t3 q77
     have e1 := oI q78
     have f40 : ∀ (e : uI) (c : Nat) (z0 : uI.get 10 e = some (.box (g20 + 1 + 1 + 1 + 1 + 1) ((vG.cells v18).map LV.d))) (z1 : uI.get 14 e = some (.box (g34 + 1 + 1 + 1 + 1) [.d (.int v32)])), (om zL).call 70 [.d (vG.enc a0), .fn 71 [] [.ptr N 10 (g20 + 1 + 1 + 1 + 1 + 1) 0, .ptr N 14 (g34 + 1 + 1 + 1 + 1) 0]] (low ++ [⟨e, none⟩]) c = some (.d (.bool (v38)), low ++ [⟨e, none⟩], QZ zL 70 [.d (vG.enc a0), .fn 71 [] [.ptr N 10 (g20 + 1 + 1 + 1 + 1 + 1) 0, .ptr N 14 (g34 + 1 + 1 + 1 + 1) 0]] (low ++ [⟨e, none⟩]) c) := fun e c z0 z1 => JO.om (Dy (JX hlN z0) (JX hlN z1) h39) c
     simp only [rs, ps, IX, IQ, hl, uD hf, hlN, r, f40, c41, (Hw).call, c42, (DY h44), (CG h44 rfl rfl), ← e1, reduceCtorEq, Nat.reduceEqDiff, Nat.reduceAdd]
    rintro s r hl hf
    refine E2 r.2.2.2.2.2.2.2.2.2.2.2.1 k10 (fun c50 k10 => ?_) fun c50 k10 => ?_
    ·refine Ra hl hf ?_
     rintro g51 s r hl hf
     obtain rfl := oK k10
     exact ⟨rfl, r, (by rw [hl]; exact hR), hf⟩
    refine Ra hl hf ?_
    rintro g52 s r hl hf
    obtain ⟨v53, h54, k11⟩ := uT k10
    have q56 := DY h54
    have q57 := CG h54 rfl rfl
    have q58 := ov h54
    refine Ra hl hf ?_
    rintro g55 s r hl hf
    obtain ⟨v59, h60, k12⟩ := uT k11
    try clear h13
    obtain ⟨v61, h62, k13⟩ := uT k12
    have q64 := gJ (sz := 4) rfl h60
    have q65 := GQ (sz := 4) (x := (Sl.hot [(AH.mk v18.at_ (W (v18.many - 1)) (W (x25 + 1)))] : Sl AH)) (y := v59) rfl rfl h62
    refine Ra hl hf ?_
    rintro g63 s r hl hf
    obtain ⟨v66, h67, k14⟩ := uT k13
    obtain ⟨v68, h69, k15⟩ := uT k14
    obtain ⟨⟨v70, t71⟩, h72, k16⟩ := uT k15
    dsimp only at k16
    refine regS (B := BR) (low := low) (Q := R t71) [E_ 0 a0, E_ 1 a1, (4, .v (.ptr pja4 pta4 pga4 0)), (5, .v (.d (.fptr (vG.cells a5) 0))), C_ 8 g1 a2, C_ 10 (g20 + 1 + 1 + 1 + 1 + 1) v18, I_ 11 a0.len, E_ 12 ((Mp.get a5.able (BZ.key v18.at_)).getD (Sl.nil : (Sl Int))), I_ 13 x25, B_ 122 (!v70)] hl hf ?_ ?_
    ·have f73 : ∀ (e : uI) (c : Nat), (om zL).call 69 [.d (vG.enc v68), .d (vG.enc v61), .d (vG.enc (a2.put (W ((W (v35.Week * 4)) + v32)) (W (v53 + 1)))), .ptr pja3 pta3 pga3 0, .ptr pja4 pta4 pga4 0, .d (.fptr (vG.cells a5) 0)] (low ++ [⟨e, none⟩]) c = some (.d (.bool v70), XI zL 69 [.d (vG.enc v68), .d (vG.enc v61), .d (vG.enc (a2.put (W ((W (v35.Week * 4)) + v32)) (W (v53 + 1)))), .ptr pja3 pta3 pga3 0, .ptr pja4 pta4 pga4 0, .d (.fptr (vG.cells a5) 0)] (low ++ [⟨e, none⟩]) c ++ [⟨e, none⟩], QZ zL 69 [.d (vG.enc v68), .d (vG.enc v61), .d (vG.enc (a2.put (W ((W (v35.Week * 4)) + v32)) (W (v53 + 1)))), .ptr pja3 pta3 pga3 0, .ptr pja4 pta4 pga4 0, .d (.fptr (vG.cells a5) 0)] (low ++ [⟨e, none⟩]) c) ∧ R t71 (XI zL 69 [.d (vG.enc v68), .d (vG.enc v61), .d (vG.enc (a2.put (W ((W (v35.Week * 4)) + v32)) (W (v53 + 1)))), .ptr pja3 pta3 pga3 0, .ptr pja4 pta4 pga4 0, .d (.fptr (vG.cells a5) 0)] (low ++ [⟨e, none⟩]) c) ∧ (XI zL 69 [.d (vG.enc v68), .d (vG.enc v61), .d (vG.enc (a2.put (W ((W (v35.Week * 4)) + v32)) (W (v53 + 1)))), .ptr pja3 pta3 pga3 0, .ptr pja4 pta4 pga4 0, .d (.fptr (vG.cells a5) 0)] (low ++ [⟨e, none⟩]) c).length = low.length := fun e c => ib.om hN hR (ih (mS R ⟨e, none⟩) (N + 1) (QJ hN _) yj yg (hy.push _) v68 v61 (a2.put (W ((W (v35.Week * 4)) + v32)) (W (v53 + 1))) a5 _ _ _ _ _ _ (FX ba3S _) (FX ba4S _) _ _ ⟨low, rfl, hR⟩ _ h72) c
     simp only [rs, ps, Hf, Ov, aR, GR, HU, Cj, hl, uD hf, hlN, r, (EE ba4), (IA (sz := 3) rfl h67), (GQ (sz := 3) (x := v66) (y := (Sl.cold [(AC.mk v18.at_.piece v18.at_.part v32)] : Sl AC)) rfl rfl h69), (md h62), (gA h69 (by simp)), (fun e c => (f73 e c).1), (fun e c => (f73 e c).2.1), (fun e c => (f73 e c).2.2), reduceCtorEq, Nat.reduceEqDiff, Nat.reduceAdd]
    rintro s r hR0 hf
    obtain ⟨low, hl⟩ : ∃ l, s.low = l := ⟨_, rfl⟩
    rw [hl] at hR0
    have hR := hR0
    have hlN : low.length = N := hN _ _ hR
    have ba3 := ba3S _ _ hR
    have ba4 := ba4S _ _ hR
    refine NF r.2.2.2.2.2.2.2.2.2.1 k16 (fun c74 k16 => ?_) fun c74 k16 => ?_
    ·refine Ra hl hf ?_
     rintro g75 s r hl hf
     obtain rfl := oK k16
     exact ⟨rfl, r, (by rw [hl]; exact hR), hf⟩
    refine Ra hl hf ?_
    rintro g76 s r hl hf
    obtain rfl := oK k16
    exact ⟨by decide, ⟨rfl, ⟨Or.inr rfl, (by rw [hl]; exact hR), AO (AL r.1)⟩⟩⟩
   obtain rfl := oK k7
   exact ⟨by decide, ⟨rfl, ⟨r.2.2.2.2.1, r.2.2.2.2.2.1, trivial⟩, (by rw [hl]; exact hR), hf⟩⟩
  intro j s hq
  rcases o28 with w26 | y27
  ·try dsimp only at k6 hq
   obtain ⟨rfl, hq⟩ := hq
   cases oK k6
   exact hq
  try dsimp only at k6 hq
  obtain ⟨rfl, r, hR0, hf⟩ := hq
  obtain ⟨low, hl⟩ : ∃ l, s.low = l := ⟨_, rfl⟩
  rw [hl] at hR0
  have hR := hR0
  have hlN : low.length = N := hN _ _ hR
  have ba3 := ba3S _ _ hR
  have ba4 := ba4S _ _ hR
  refine Ra hl hf ?_
  rintro g79 s r hl hf
  cases oK k6
  exact ⟨Or.inr rfl, (by rw [hl]; exact hR), AO (AL r.1)⟩
end Go.Lf
