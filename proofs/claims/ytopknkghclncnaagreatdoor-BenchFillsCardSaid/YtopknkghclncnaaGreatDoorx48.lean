/- A part of the proof. -/
import Derived.Test.YtopknkghclncnaaGreatDoorx28
import Derived.Test.YtopknkghclncnaaGreatDoorx30
import Derived.Test.YtopknkghclncnaaGreatDoorx47
set_option linter.all false
set_option maxHeartbeats 9999999
namespace Go.Lf
open Go
theorem Hm (a0 : (Sl (Ar 5 Int))) : Fin zL 102 [Enc.enc a0] (.bool (Gn a0)) := by
 refine fnN OI OB ?_
 rintro low s r hl hf
 refine Ra hl hf ?_
 rintro g1 s r hl hf
 refine Ra hl hf ?_
 rintro g2 s r hl hf
 exact ⟨Or.inr rfl, hl, AH (AE r.1)⟩
def gz := fun a0 => (Hm a0).call
theorem M7 {low : List Fr} {a0 : (Sl (Sl (Ar 5 Int)))} {r : Int} (k0 : Ec a0 = some r) : LY zL 114 [.d (Enc.enc a0), .d (.fn 102 [] [])] low (.d (.int r)) := by
 unfold Ec at k0; replace k0 := kq k0
 refine li Gp JP ?_
 rintro s r hl hf
 refine Ra hl hf ?_
 rintro g1 s r hl hf
 refine Ra hl hf ?_
 rintro g2 s r hl hf
 refine blk ?_
 obtain ⟨o5, l6, k1⟩ := bnk k0
 refine AY (f := Bd a0) (E := fun (x : Int) s => BG [E_ 0 a0, (1, .v (.d (.fn 102 [] []))), I_ 7 a0.len, I_ 8 x] s ∧ s.low = low ∧ NoB Gp s) (Q := fun (o : ((Int) ⊕ (Unit))) j s => match o with | .inl w4 => j = .ret ∧ FnJ JP.1 low (.d (.int w4)) .ret s | .inr _ => j = .exit 0 ∧ BG [] s ∧ s.low = low ∧ NoB Gp s) l6 ?_ ⟨r, hl, hf⟩ ?_
 ·rintro x3 s out ⟨r, hl, hf⟩ k2
  unfold Bd at k2
  refine Ra hl hf ?_
  rintro g7 s r hl hf
  refine Bn r.2.2.2.2.1 k2 (fun c8 k2 => ?_) fun c8 k2 => ?_
  ·refine blk <| Ra hl hf ?_
   rintro g9 s r hl hf
   obtain ⟨v10, h11, k3⟩ := bnk k2
   obtain ⟨c12, hc12⟩ := Hk (LP := zL) (ds := [Enc.enc v10]) (Hm v10); simp only [List.map_cons, List.map_nil] at hc12
   have q14 := @hc12
   refine Ra hl hf ?_
   rintro g13 s r hl hf
   refine Bn r.2.2.2.2.2.1 k3 (fun c15 k3 => ?_) fun c15 k3 => ?_
   ·refine Ra hl hf ?_
    rintro g16 s r hl hf
    obtain rfl := oK k3
    exact ⟨by decide, ⟨rfl, ⟨Or.inr rfl, hl, AH (AE r.1)⟩⟩⟩
   refine Ra hl hf ?_
   rintro g17 s r hl hf
   obtain rfl := oK k3
   exact ⟨rfl, r, hl, hf⟩
  obtain rfl := oK k2
  exact ⟨by decide, ⟨rfl, trivial, hl, hf⟩⟩
 intro j s hq
 rcases o5 with w4 | _
 ·try dsimp only at k1 hq
  obtain ⟨rfl, hq⟩ := hq
  cases oK k1
  exact hq
 try dsimp only at k1 hq
 obtain ⟨rfl, -, hl, hf⟩ := hq
 refine Ra hl hf ?_
 rintro g18 s r hl hf
 cases oK k1
 exact ⟨Or.inr rfl, hl, AH (AE r.1)⟩
theorem Kr {low : List Fr} {a0 : (Sl (Sl (Ar 5 Int)))} {r : Bool} (k0 : Db a0 = some r) : LY zL 101 [.d (Enc.enc a0), .d (.fn 102 [] [])] low (.d (.bool r)) := by
 unfold Db at k0; replace k0 := kq k0
 refine li NZ Nc ?_
 rintro s r hl hf
 refine Ra hl hf ?_
 rintro g1 s r hl hf
 obtain ⟨v2, h3, k1⟩ := bnk k0
 have f4 : ∀ (e : Env) (c : Nat), (om zL).call 114 [.d (Enc.enc a0), .d (.fn 102 [] [])] (low ++ [⟨e, none⟩]) c = some (.d (.int (v2)), low ++ [⟨e, none⟩], UT zL 114 [.d (Enc.enc a0), .d (.fn 102 [] [])] (low ++ [⟨e, none⟩]) c) := fun e c => LY.om (M7 h3) c
 have q6 := @f4
 refine Ra hl hf ?_
 rintro g5 s r hl hf
 cases oK k1
 exact ⟨Or.inr rfl, hl, AH (AE r.1)⟩
theorem P8 {a0 : AB} {r : Bool} (k0 : Dm a0 = some r) : Fin zL 84 [Enc.enc a0] (.bool r) := by
 unfold Dm at k0; replace k0 := kq k0
 refine fnN Qw Q5 ?_
 rintro low s r hl hf
 refine Ra hl hf ?_
 rintro g1 s r hl hf
 obtain ⟨v2, h3, k1⟩ := bnk k0
 have q5 := LY.call (LP := zL) (ds := [Enc.enc a0.truths, .fn 102 [] []]) (Kr h3)
 refine Ra hl hf ?_
 rintro g4 s r hl hf
 cases oK k1
 exact ⟨Or.inr rfl, hl, AH (AE r.1)⟩
def KC := fun a0 => Cq.mk (@P8 a0)
theorem aC {a0 : VoiceBook} {r : (Bool × Int)} (k0 : J7 a0 = some r) : Fin zL 59 [Enc.enc a0] (Enc.enc r) := by
 unfold J7 at k0; replace k0 := kq k0
 refine fnN fw dw ?_
 rintro low s r hl hf
 have q14 := @Nb
 have q15 := @KC
 refine Ra hl hf ?_
 rintro g1 s r hl hf
 obtain ⟨v2, h3, k1⟩ := bnk k0
 refine Ra hl hf ?_
 rintro g4 s r hl hf
 refine Ra hl hf ?_
 rintro g5 s r hl hf
 refine JV r.2.2.1 k1 (fun c6 k1 => ?_) fun c6 k1 => ?_
 ·obtain ⟨v7, h8, k2⟩ := bnk k1
  obtain ⟨v9, h10, k3⟩ := bnk k2
  have q12 := Fin.call (LP := zL) (ds := [Enc.enc a0, .nils]) (J6 h8)
  refine Ra hl hf ?_
  rintro g11 s r hl hf
  cases oK k3
  exact ⟨Or.inr rfl, hl, Av (AE r.1) (AE r.2.1)⟩
 refine Ra hl hf ?_
 rintro g13 s r hl hf
 cases oK k1
 exact ⟨Or.inr rfl, hl, Av (AE r.1) (AE r.2.1)⟩
def fV := fun a0 => Cq.mk (@aC a0)
theorem Oc : Fin zL 60 [] (Enc.enc (kM)) := by
 refine fnN bB am ?_
 rintro low s - hl hf
 have q2 := @Y7
 refine Ra hl hf ?_
 rintro g1 s r hl hf
 have q4 := @I7
 refine Ra hl hf ?_
 rintro g3 s r hl hf
 exact ⟨Or.inr rfl, hl, AH (Cm r.1 rfl)⟩
def u4 := Oc.call
theorem IA (a0 : Int) : Fin zL 85 [.int a0] (.bool (J9 a0)) := by
 refine fnN UH Tt ?_
 rintro low s r hl hf
 refine Ra hl hf ?_
 rintro g1 s - hl hf
 refine Ra hl hf ?_
 rintro g2 s r hl hf
 exact ⟨Or.inr rfl, hl, AH (AE r.1)⟩
def ql := fun a0 => (IA a0).call
theorem a9 {a0 : VoiceBook} {a1 : Bool} {r : (AB × Int)} (k0 : Dt a0 a1 = some r) : Fin zL 108 [Enc.enc a0, .bool a1] (Enc.enc r) := by
 unfold Dt at k0; replace k0 := kq k0
 refine fnN eU ey ?_
 rintro low s r hl hf
 have q24 := @Nb
 have q25 := @KC
 have q2 := @Oi
 refine Ra hl hf ?_
 rintro g1 s r hl hf
 obtain ⟨v3, h4, k1⟩ := bnk k0
 refine Ra hl hf ?_
 rintro g5 s r hl hf
 refine Ra hl hf ?_
 rintro g6 s r hl hf
 refine JV r.2.2.2.2.1 k1 (fun c7 k1 => ?_) fun c7 k1 => ?_
 ·refine Ra hl hf ?_
  rintro g8 s r hl hf
  refine JV r.2.2.1 k1 (fun c9 k1 => ?_) fun c9 k1 => ?_
  ·obtain ⟨v10, h11, k2⟩ := bnk k1
   have q13 := Fin.call (LP := zL) (ds := [Enc.enc a0, .nils]) (J6 h11)
   refine Ra hl hf ?_
   rintro g12 s r hl hf
   obtain ⟨v14, h15, k3⟩ := bnk k2
   refine Ra hl hf ?_
   rintro g16 s r hl hf
   refine JV r.2.2.1 k3 (fun c17 k3 => ?_) fun c17 k3 => ?_
   ·refine Ra hl hf ?_
    rintro g18 s r hl hf
    cases oK k3
    exact ⟨Or.inr rfl, hl, Av (Cm r.1 rfl) (AE r.2.1)⟩
   refine Ra hl hf ?_
   rintro g19 s r hl hf
   cases oK k3
   exact ⟨Or.inr rfl, hl, Av (Cm r.1 rfl) (AE r.2.1)⟩
  have q21 := @TY
  refine Ra hl hf ?_
  rintro g20 s r hl hf
  cases oK k1
  exact ⟨Or.inr rfl, hl, Av (Cm r.1 rfl) (AE r.2.1)⟩
 have q23 := @TY
 refine Ra hl hf ?_
 rintro g22 s r hl hf
 cases oK k1
 exact ⟨Or.inr rfl, hl, Av (Cm r.1 rfl) (AE r.2.1)⟩
def fu := fun a0 a1 => Cq.mk (@a9 a0 a1)
theorem MG {a0 : AB} {a1 : Int} {a2 : (Ar 5 Int)} {a3 : Int} {r : Int} (k0 : Gx a0 a1 a2 a3 = some r) : Fin zL 119 [Enc.enc a0, .int a1, Enc.enc a2, .int a3] (.int r) := by
 unfold Gx at k0; replace k0 := kq k0
 refine fnN N3 N5 ?_
 rintro low s r hl hf
 have q20 := @MV
 refine Ra hl hf ?_
 rintro g1 s r hl hf
 obtain ⟨v2, h3, k1⟩ := bnk k0
 obtain ⟨v4, h5, k2⟩ := bnk k1
 have q7 := Da h3
 have q8 := B0 h3 rfl rfl
 refine Ra hl hf ?_
 rintro g6 s r hl hf
 obtain ⟨v9, h10, k3⟩ := bnk k2
 obtain ⟨v11, h12, k4⟩ := bnk k3
 obtain ⟨v13, h14, k5⟩ := bnk k4
 have q16 := Da h10
 have q17 := B0 h10 rfl rfl
 have q18 := Da h12
 have q19 := B0 h12 rfl rfl
 refine Ra hl hf ?_
 rintro g15 s r hl hf
 cases oK k5
 exact ⟨Or.inr rfl, hl, AH (AE r.1)⟩
def sM := fun a0 a1 a2 a3 => Cq.mk (@MG a0 a1 a2 a3)
theorem IQ {a0 : AB} {a1 : Int} {a2 : (Ar 5 Int)} {a3 : Int} {a4 : Int} {r : Bool} (k0 : Ea a0 a1 a2 a3 a4 = some r) : Fin zL 117 [Enc.enc a0, .int a1, Enc.enc a2, .int a3, .int a4] (.bool r) := by
 unfold Ea at k0; replace k0 := kq k0
 refine fnN N7 N2 ?_
 rintro low s r hl hf
 have q22 := @EU
 refine Ra hl hf ?_
 rintro g1 s r hl hf
 obtain ⟨o11, q12, k1⟩ := bnk k0
 refine nZ [B_ 10 o11] hl hf ?_ ?_
 ·by_cases c2 : (decide (Bq.key a2 = Bq.key (⟨[(-1), (-1), (-1), (-1), (-1)], rfl⟩ : (Ar 5 Int)))) = true
  ·rw [if_pos c2] at q12
   have e1 := oI q12
   simp only [rs, ps, KL, KQ, hl, nob hf, r, Q8, c2, ← e1, reduceCtorEq, Nat.reduceEqDiff, Nat.reduceAdd]
  rw [if_neg c2] at q12
  have c2 := eq_false_of_ne_true c2
  obtain ⟨v3, h4, q19⟩ := bnd q12
  by_cases c5 : (decide (a3 < v3)) = true
  ·rw [if_pos c5] at q19
   obtain ⟨v6, h7, q20⟩ := bnd q19
   obtain ⟨v9, h10, q21⟩ := bnd q20
   have e1 := oI q21
   obtain ⟨c8, hc8⟩ := Hk (LP := zL) (ds := [Enc.enc a0, .int a1, Enc.enc a2, .int a3]) (MG h10); simp only [List.map_cons, List.map_nil] at hc8
   simp only [rs, ps, KL, KQ, hl, nob hf, r, Q8, c2, (Da h4), (B0 h4 rfl rfl), c5, (Da h7), (B0 h7 rfl rfl), hc8, (KV a4 v6 v9).call, ← e1, reduceCtorEq, Nat.reduceEqDiff, Nat.reduceAdd]
  rw [if_neg c5] at q19
  have c5 := eq_false_of_ne_true c5
  have e1 := oI q19
  simp only [rs, ps, KL, KQ, hl, nob hf, r, Q8, c2, (Da h4), (B0 h4 rfl rfl), c5, ← e1, reduceCtorEq, Nat.reduceEqDiff, Nat.reduceAdd]
 rintro s r hl hf
 cases oK k1
 exact ⟨Or.inr rfl, hl, AH (AE r.1)⟩
def sN := fun a0 a1 a2 a3 a4 => Cq.mk (@IQ a0 a1 a2 a3 a4)
theorem Qo {a0 : AB} {a1 : Int} {a2 : Int} {a3 : Int} {r : Am} (k0 : FG a0 a1 a2 a3 = some r) : Fin zL 109 [Enc.enc a0, .int a1, .int a2, .int a3] (Enc.enc r) := by
 unfold FG at k0; replace k0 := kq k0
 refine fnN Hg TO ?_
 rintro low s r hl hf
 have q2 := @ew
 refine Ra hl hf ?_
 rintro g1 s r hl hf
 obtain ⟨v3, h4, k1⟩ := bnk k0
 have q6 := @Vl
 refine Ra hl hf ?_
 rintro g5 s r hl hf
 have q8 := @K5
 have q9 := fun s ro => fM (n := 2) s ro a0.whole (Ae.mk a1 a2) (Sl.nil : (Sl (Ar 5 Int))) (.nils) rfl (by decide) rfl
 refine Ra hl hf ?_
 rintro g7 s r hl hf
 refine blk ?_
 obtain ⟨o13, l14, k2⟩ := bnk k1
 refine AY (f := CW a0 a1 a2 a3) (E := fun (x : Am × Int) s => BG [I_ 1 a1, I_ 2 a2, I_ 3 a3, C_ 4 g1 a0, C_ 8 (g1 + 1) (Am.mk 0 0), C_ 9 (g5 + 1 + 1 + 1 + 1 + 1 + 1 + 1) x.1, E_ 24 ((Mp.get a0.whole (Bq.key (Ae.mk a1 a2))).getD (Sl.nil : (Sl (Ar 5 Int)))), I_ 25 (((Mp.get a0.whole (Bq.key (Ae.mk a1 a2))).getD (Sl.nil : (Sl (Ar 5 Int)))).len), I_ 26 x.2] s ∧ s.low = low ∧ NoB Hg s) (Q := fun (y12 : Am) j s => j = .exit 0 ∧ BG [C_ 4 g1 a0, C_ 8 (g1 + 1) (Am.mk 0 0), C_ 9 (g5 + 1 + 1 + 1 + 1 + 1 + 1 + 1) y12] s ∧ s.low = low ∧ NoB Hg s) l14 ?_ ⟨r, hl, hf⟩ ?_
 ·rintro ⟨x10, x11⟩ s out ⟨r, hl, hf⟩ k3
  dsimp only at r
  simp only [CW] at k3
  refine Ra hl hf ?_
  rintro g15 s r hl hf
  refine Bn r.2.2.2.2.2.2.2.2.2.1 k3 (fun c16 k3 => ?_) fun c16 k3 => ?_
  ·refine blk ?_
   obtain ⟨v17, h18, k4⟩ := bnk k3
   refine Ra hl hf ?_
   rintro g19 s r hl hf
   obtain ⟨v21, h22, k5⟩ := bnk k4
   obtain ⟨c20, hc20⟩ := Hk (LP := zL) (ds := [Enc.enc a0, .int a1, Enc.enc v17, .int a2, .int a3]) (IQ h22); simp only [List.map_cons, List.map_nil] at hc20
   have q24 := @hc20
   refine Ra hl hf ?_
   rintro g23 s r hl hf
   refine Bn r.2.2.2.2.2.2.2.2.2.1 k5 (fun c25 k5 => ?_) fun c25 k5 => ?_
   ·refine Ra hl hf ?_
    rintro g26 s r hl hf
    refine Ra hl hf ?_
    rintro g27 s r hl hf
    obtain rfl := oK k5
    exact ⟨rfl, r, hl, hf⟩
   refine Ra hl hf ?_
   rintro g28 s r hl hf
   obtain rfl := oK k5
   exact ⟨rfl, r, hl, hf⟩
  obtain rfl := oK k3
  exact ⟨by decide, ⟨rfl, ⟨r.2.2.2.1, r.2.2.2.2.1, r.2.2.2.2.2.1, trivial⟩, hl, hf⟩⟩
 intro j s hq
 obtain ⟨y12, rfl⟩ : ∃ x, x = o13 := ⟨_, rfl⟩
 try dsimp only at k2 hq
 obtain ⟨rfl, r, hl, hf⟩ := hq
 refine Ra hl hf ?_
 rintro g29 s r hl hf
 cases oK k2
 exact ⟨Or.inr rfl, hl, AH (Cm r.1 rfl)⟩
def Rz := fun a0 a1 a2 a3 => Cq.mk (@Qo a0 a1 a2 a3)
theorem J5 (a0 : Am) : Fin zL 136 [Enc.enc a0] (.bool (Gz a0)) := by
 refine fnN Rm Rn ?_
 rintro low s r hl hf
 refine Ra hl hf ?_
 rintro g1 s r hl hf
 refine Ra hl hf ?_
 rintro g2 s r hl hf
 exact ⟨Or.inr rfl, hl, AH (AE r.1)⟩
def Ta := fun a0 => (J5 a0).call
theorem KZ (a0 : Am) : Fin zL 137 [Enc.enc a0] (.bool (Gy a0)) := by
 refine fnN SV SD ?_
 rintro low s r hl hf
 refine Ra hl hf ?_
 rintro g1 s r hl hf
 refine Ra hl hf ?_
 rintro g2 s r hl hf
 exact ⟨Or.inr rfl, hl, AH (AE r.1)⟩
def pn := fun a0 => (KZ a0).call
theorem QC {a0 : Am} {r : Int} (k0 : Ej a0 = some r) : Fin zL 110 [Enc.enc a0] (.int r) := by
 unfold Ej at k0; replace k0 := kq k0
 refine fnN HA Qy ?_
 rintro low s r hl hf
 have q23 := @Ta
 refine Ra hl hf ?_
 rintro g1 s r hl hf
 refine Ra hl hf ?_
 rintro g2 s r hl hf
 have q4 := @xg
 refine Ra hl hf ?_
 rintro g3 s r hl hf
 refine blk ?_
 obtain ⟨o8, l9, k1⟩ := bnk k0
 refine AY (f := A9 a0) (E := fun (x : Int × Int) s => BG [C_ 1 g1 a0, I_ 3 x.1, (6, .v (.d (.agg [.fn 136 [] [], .fn 137 [] []]))), I_ 7 x.2] s ∧ s.low = low ∧ NoB HA s) (Q := fun (y7 : Int) j s => j = .exit 0 ∧ BG [C_ 1 g1 a0, I_ 3 y7] s ∧ s.low = low ∧ NoB HA s) l9 ?_ ⟨r, hl, hf⟩ ?_
 ·rintro ⟨x5, x6⟩ s out ⟨r, hl, hf⟩ k2
  dsimp only at r
  simp only [A9] at k2
  refine Ra hl hf ?_
  rintro g10 s r hl hf
  refine Bn r.2.2.2.2.1 k2 (fun c11 k2 => ?_) fun c11 k2 => ?_
  ·refine blk ?_
   obtain ⟨v12, h13, k3⟩ := bnk k2
   refine Ra hl hf ?_ (h := by intro c; simp only [(yd (x := .fn 136 [] []) (y := .fn 137 [] []) h13), rt, ps, nob hf, *, reduceCtorEq, Nat.reduceEqDiff, Nat.reduceAdd, Nat.reduceMul] <;> rfl)
   rintro g14 s r hl hf
   refine nZ [C_ 1 g1 a0, I_ 3 x5, (6, .v (.d (.agg [.fn 136 [] [], .fn 137 [] []]))), I_ 7 x6, B_ 12 (if v12 then (Gy a0) else (Gz a0))] hl hf ?_ ?_
   ·cases c16 : v12
    ·simp only [rs, ps, wn, xN, hl, nob hf, r, c16, (J5 a0).call, reduceCtorEq, Nat.reduceEqDiff, Nat.reduceAdd]
    simp only [rs, ps, wn, xN, hl, nob hf, r, c16, (KZ a0).call, reduceCtorEq, Nat.reduceEqDiff, Nat.reduceAdd]
   rintro s r hl hf
   refine Bn r.2.2.2.2.1 k3 (fun c18 k3 => ?_) fun c18 k3 => ?_
   ·refine Ra hl hf ?_
    rintro g19 s r hl hf
    refine Ra hl hf ?_
    rintro g20 s r hl hf
    obtain rfl := oK k3
    exact ⟨rfl, r, hl, hf⟩
   refine Ra hl hf ?_
   rintro g21 s r hl hf
   obtain rfl := oK k3
   exact ⟨rfl, r, hl, hf⟩
  obtain rfl := oK k2
  exact ⟨by decide, ⟨rfl, ⟨r.1, r.2.1, trivial⟩, hl, hf⟩⟩
 intro j s hq
 obtain ⟨y7, rfl⟩ : ∃ x, x = o8 := ⟨_, rfl⟩
 try dsimp only at k1 hq
 obtain ⟨rfl, r, hl, hf⟩ := hq
 refine Ra hl hf ?_
 rintro g22 s r hl hf
 cases oK k1
 exact ⟨Or.inr rfl, hl, AH (AE r.1)⟩
def Qi := fun a0 => Cq.mk (@QC a0)
theorem a7 {a0 : VoiceBook} {a1 : Int} {a2 : Int} {a3 : Int} {r : (Int × Int)} (k0 : IT a0 a1 a2 a3 = some r) : Fin zL 98 [Enc.enc a0, .int a1, .int a2, .int a3] (Enc.enc r) := by
 unfold IT at k0; replace k0 := kq k0
 refine fnN dt dh ?_
 rintro low s r hl hf
 have q22 := @fu
 have q23 := @Rz
 have q24 := @SA
 have q25 := @QS
 have q26 := @QJ
 have q27 := @Qi
 refine Ra hl hf ?_
 rintro g1 s r hl hf
 obtain ⟨⟨o10, o11⟩, q, k1⟩ := bnk k0
 try dsimp only at k1
 refine Rq (fun g13 => [C_ 10 (g13 + 1 + 1 + 1 + 1 + 1 + 1 + 1 + 1 + 1 + 1 + 1 + 1 + 1 + 1 + 1 + 1 + 1) o10, I_ 11 o11]) hl hf q ?_
 rintro g13 s r hl hf
 refine Ra hl hf ?_
 rintro g14 s r hl hf
 refine JV r.2.2.2.2.2.1 k1 (fun c15 k1 => ?_) fun c15 k1 => ?_
 ·obtain ⟨v16, h17, k2⟩ := bnk k1
  obtain ⟨v18, h19, k3⟩ := bnk k2
  refine Ra hl hf ?_
  rintro g20 s r hl hf
  cases oK k3
  exact ⟨Or.inr rfl, hl, Av (AE r.1) (AE r.2.1)⟩
 refine Ra hl hf ?_
 rintro g21 s r hl hf
 cases oK k1
 exact ⟨Or.inr rfl, hl, Av (AE r.1) (AE r.2.1)⟩
def SZ := fun a0 a1 a2 a3 => Cq.mk (@a7 a0 a1 a2 a3)
theorem KR {low : List Fr} {a0 : AC} {a1 : AL} {a2 : Int} {wja0 : Nat} {wta0 : Nat} {wga0 : Nat} (hwa0 : wja0 < low.length) {r : Bool} (k0 : C9 a0 a1 a2 = some r) : LY zL 82 [.agg (AC.lc a0 wja0 wta0 wga0), .d (Enc.enc a1), .d (.int a2)] low (.d (.bool r)) := by
 unfold C9 at k0; replace k0 := kq k0
 refine li D8 G3 ?_
 rintro s r hl hf
 have q29 := @SZ
 have q2 := @T9
 refine Ra hl hf ?_
 rintro g1 s r hl hf
 obtain ⟨v3, h4, k1⟩ := bnk k0
 have q6 := @Qp
 refine Ra hl hf ?_
 rintro g5 s r hl hf
 obtain ⟨v7, h8, k2⟩ := bnk k1
 refine Ra hl hf ?_
 rintro g9 s r hl hf
 refine Ra hl hf ?_
 rintro g10 s r hl hf
 refine blk ?_
 obtain ⟨o13, l14, k3⟩ := bnk k2
 refine AY (f := CX a0 a2 v3 v7) (E := fun (x : Int) s => BG [I_ 2 a2, (3, .box g1 (AC.lc a0 wja0 wta0 wga0)), C_ 7 (g5 + 1 + 1 + 1 + 1 + 1 + 1 + 1) v3, C_ 8 (g9 + 1 + 1 + 1 + 1 + 1 + 1 + 1) v7.Notes, I_ 31 (W ((W (v7.Notes.High - v7.Notes.Low)) + 1)), I_ 32 x] s ∧ s.low = low ∧ NoB D8 s) (Q := fun (o : ((Bool) ⊕ (Unit))) j s => match o with | .inl w12 => j = .ret ∧ FnJ G3.1 low (.d (.bool w12)) .ret s | .inr _ => j = .exit 0 ∧ BG [(3, .box g1 (AC.lc a0 wja0 wta0 wga0)), C_ 7 (g5 + 1 + 1 + 1 + 1 + 1 + 1 + 1) v3, C_ 8 (g9 + 1 + 1 + 1 + 1 + 1 + 1 + 1) v7.Notes] s ∧ s.low = low ∧ NoB D8 s) l14 ?_ ⟨r, hl, hf⟩ ?_
 ·rintro x11 s out ⟨r, hl, hf⟩ k4
  unfold CX at k4
  refine Ra hl hf ?_
  rintro g15 s r hl hf
  refine Bn r.2.2.2.2.2.2.1 k4 (fun c16 k4 => ?_) fun c16 k4 => ?_
  ·refine blk <| Ra hl hf ?_
   rintro g17 s r hl hf
   obtain ⟨v18, h19, k5⟩ := bnk k4
   have q21 := @Og
   refine Ra hl hf ?_
   rintro g20 s r hl hf
   refine Rx (fun g24 => [B_ 54 (if (decide (v18.2 = 0)) then (decide (v18.1 < 2)) else true)]) hl hf ?_
   rintro g24 s r hl hf
   refine Bn r.2.2.2.2.2.2.1 k5 (fun c25 k5 => ?_) fun c25 k5 => ?_
   ·refine Ra hl hf ?_
    rintro g26 s r hl hf
    obtain rfl := oK k5
    exact ⟨by decide, ⟨rfl, ⟨Or.inr rfl, hl, AH (AE r.1)⟩⟩⟩
   refine Ra hl hf ?_
   rintro g27 s r hl hf
   obtain rfl := oK k5
   exact ⟨rfl, r, hl, hf⟩
  obtain rfl := oK k4
  exact ⟨by decide, ⟨rfl, ⟨r.2.1, r.2.2.1, r.2.2.2.1, trivial⟩, hl, hf⟩⟩
 intro j s hq
 rcases o13 with w12 | _
 ·try dsimp only at k3 hq
  obtain ⟨rfl, hq⟩ := hq
  cases oK k3
  exact hq
 try dsimp only at k3 hq
 obtain ⟨rfl, r, hl, hf⟩ := hq
 refine Ra hl hf ?_
 rintro g28 s r hl hf
 cases oK k3
 exact ⟨Or.inr rfl, hl, AH (AE r.1)⟩
theorem UV {low : List Fr} {a0 : BenchBook} {r : AC} (k0 : Ik a0 = some r) : LY zL 56 [.d (Enc.enc a0), .d (.agg [.fn 85 [] []])] low (.d (Enc.enc r)) := by
 unfold Ik at k0; replace k0 := kq k0
 refine li BH Qc ?_
 rintro s r hl hf
 have q2 := @pM
 have q3 := @lC
 have q4 := @JE
 refine Ra hl hf ?_
 rintro g1 s r hl hf
 have q6 := @GM
 have q7 := @IL
 have q8 := @Pn
 have q9 := @Jv
 have q10 := @JE
 have q11 := @tY
 refine Ra hl hf ?_ (h := by intro c; simp only [(Ug (n := 2) (AL.mk (-1) (-1)) rfl (by decide)), (SO (LP := zL) (t := 13) (gm := c + 1) (key := (Bq.key (AL.mk (-1) (-1)))) (a := (Sl.nil : (Sl Int))) (vd := .nils) (hav := rfl)), rt, ps, nob hf, *, reduceCtorEq, Nat.reduceEqDiff, Nat.reduceAdd, Nat.reduceMul] <;> rfl)
 rintro g5 s r hl hf
 have q15 := @Kx
 have q16 := @EB
 refine Ra hl hf ?_
 rintro g14 s r hl hf
 refine Ra hl hf ?_
 rintro g17 s r hl hf
 refine blk ?_
 obtain ⟨o21, l22, k1⟩ := bnk k0
 refine AY (f := IX a0) (E := fun (x : (List (List Int × (Sl Int))) × Int) s => BG [C_ 2 g1 a0, (3, .box (g1 + 1) [.d (.fn 85 [] [])]), C_ 4 (g1 + 1 + 1) (AC.mk (BenchBook.mk (VoiceBook.mk (Sl.nil : (Sl AO)) 0 (Sl.nil : (Sl AN))) (Sl.nil : (Sl AM)) 0) (Mp.nil : (Mp 2 (Sl Int)))), (5, .box (g5 + 1 + 1 + 1 + 1 + 1 + 1) (AC.lc (AC.mk a0 (Mp.nil : (Mp 2 (Sl Int)))) low.length 13 (g5 + 1))), (6, .v (.fn 82 [.agg (AC.lc (AC.mk a0 (Mp.nil : (Mp 2 (Sl Int)))) low.length 13 (g5 + 1))] [])), (13, .mapo (g5 + 1) 2 (D4 x.1)), E_ 20 a0.Pieces, I_ 21 a0.Pieces.len, I_ 22 x.2] s ∧ s.low = low ∧ NoB BH s) (Q := fun (y20 : (List (List Int × (Sl Int)))) j s => j = .exit 0 ∧ BG [C_ 2 g1 a0, (3, .box (g1 + 1) [.d (.fn 85 [] [])]), C_ 4 (g1 + 1 + 1) (AC.mk (BenchBook.mk (VoiceBook.mk (Sl.nil : (Sl AO)) 0 (Sl.nil : (Sl AN))) (Sl.nil : (Sl AM)) 0) (Mp.nil : (Mp 2 (Sl Int)))), (5, .box (g5 + 1 + 1 + 1 + 1 + 1 + 1) (AC.lc (AC.mk a0 (Mp.nil : (Mp 2 (Sl Int)))) low.length 13 (g5 + 1))), (13, .mapo (g5 + 1) 2 (D4 y20))] s ∧ s.low = low ∧ NoB BH s) l22 ?_ ⟨r, hl, hf⟩ ?_
 ·rintro ⟨x18, x19⟩ s out ⟨r, hl, hf⟩ k2
  dsimp only at r
  simp only [IX] at k2
  refine Ra hl hf ?_
  rintro g23 s r hl hf
  refine Bn r.2.2.2.2.2.2.2.2.2.1 k2 (fun c24 k2 => ?_) fun c24 k2 => ?_
  ·refine blk ?_
   obtain ⟨v25, h26, k3⟩ := bnk k2
   refine Ra hl hf ?_
   rintro g27 s r hl hf
   refine Ra hl hf ?_
   rintro g28 s r hl hf
   refine blk ?_
   obtain ⟨o32, l33, k4⟩ := bnk k3
   refine AY (f := IO a0 x19 v25) (E := fun (x : (List (List Int × (Sl Int))) × Int) s => BG [C_ 2 g1 a0, (3, .box (g1 + 1) [.d (.fn 85 [] [])]), C_ 4 (g1 + 1 + 1) (AC.mk (BenchBook.mk (VoiceBook.mk (Sl.nil : (Sl AO)) 0 (Sl.nil : (Sl AN))) (Sl.nil : (Sl AM)) 0) (Mp.nil : (Mp 2 (Sl Int)))), (5, .box (g5 + 1 + 1 + 1 + 1 + 1 + 1) (AC.lc (AC.mk a0 (Mp.nil : (Mp 2 (Sl Int)))) low.length 13 (g5 + 1))), (6, .v (.fn 82 [.agg (AC.lc (AC.mk a0 (Mp.nil : (Mp 2 (Sl Int)))) low.length 13 (g5 + 1))] [])), I_ 7 x19, (13, .mapo (g5 + 1) 2 (D4 x.1)), E_ 20 a0.Pieces, I_ 21 a0.Pieces.len, I_ 22 x19, I_ 29 v25.Parts.len, I_ 30 x.2] s ∧ s.low = low ∧ NoB BH s) (Q := fun (y31 : (List (List Int × (Sl Int)))) j s => j = .exit 2 ∧ BG [C_ 2 g1 a0, (3, .box (g1 + 1) [.d (.fn 85 [] [])]), C_ 4 (g1 + 1 + 1) (AC.mk (BenchBook.mk (VoiceBook.mk (Sl.nil : (Sl AO)) 0 (Sl.nil : (Sl AN))) (Sl.nil : (Sl AM)) 0) (Mp.nil : (Mp 2 (Sl Int)))), (5, .box (g5 + 1 + 1 + 1 + 1 + 1 + 1) (AC.lc (AC.mk a0 (Mp.nil : (Mp 2 (Sl Int)))) low.length 13 (g5 + 1))), (6, .v (.fn 82 [.agg (AC.lc (AC.mk a0 (Mp.nil : (Mp 2 (Sl Int)))) low.length 13 (g5 + 1))] [])), (13, .mapo (g5 + 1) 2 (D4 y31)), E_ 20 a0.Pieces, I_ 21 a0.Pieces.len, I_ 22 x19] s ∧ s.low = low ∧ NoB BH s) l33 ?_ ⟨r, hl, hf⟩ ?_
   ·rintro ⟨x29, x30⟩ s out ⟨r, hl, hf⟩ k5
    dsimp only at r
    simp only [IO] at k5
    refine Ra hl hf ?_
    rintro g34 s r hl hf
    refine Bn r.2.2.2.2.2.2.2.2.2.2.2.2.1 k5 (fun c35 k5 => ?_) fun c35 k5 => ?_
    ·refine blk <| Ra hl hf ?_
     rintro g36 s r hl hf
     have q38 := @Ff
     refine Ra hl hf ?_
     rintro g37 s r hl hf
     refine Ra hl hf ?_
     rintro g39 s r hl hf
     refine blk ?_
     obtain ⟨o43, l44, k6⟩ := bnk k5
     refine AY (f := IM a0 x19 x30) (E := fun (x : (List (List Int × (Sl Int))) × Int) s => BG [C_ 2 g1 a0, (3, .box (g1 + 1) [.d (.fn 85 [] [])]), C_ 4 (g1 + 1 + 1) (AC.mk (BenchBook.mk (VoiceBook.mk (Sl.nil : (Sl AO)) 0 (Sl.nil : (Sl AN))) (Sl.nil : (Sl AM)) 0) (Mp.nil : (Mp 2 (Sl Int)))), (5, .box (g5 + 1 + 1 + 1 + 1 + 1 + 1) (AC.lc (AC.mk a0 (Mp.nil : (Mp 2 (Sl Int)))) low.length 13 (g5 + 1))), (6, .v (.fn 82 [.agg (AC.lc (AC.mk a0 (Mp.nil : (Mp 2 (Sl Int)))) low.length 13 (g5 + 1))] [])), I_ 7 x19, C_ 10 (g37 + 1 + 1 + 1) (AL.mk x19 x30), (13, .mapo (g5 + 1) 2 (D4 x.1)), E_ 20 a0.Pieces, I_ 21 a0.Pieces.len, I_ 22 x19, I_ 29 v25.Parts.len, I_ 30 x30, I_ 39 a0.Voice.Boys.len, I_ 40 x.2] s ∧ s.low = low ∧ NoB BH s) (Q := fun (y42 : (List (List Int × (Sl Int)))) j s => j = .exit 4 ∧ BG [C_ 2 g1 a0, (3, .box (g1 + 1) [.d (.fn 85 [] [])]), C_ 4 (g1 + 1 + 1) (AC.mk (BenchBook.mk (VoiceBook.mk (Sl.nil : (Sl AO)) 0 (Sl.nil : (Sl AN))) (Sl.nil : (Sl AM)) 0) (Mp.nil : (Mp 2 (Sl Int)))), (5, .box (g5 + 1 + 1 + 1 + 1 + 1 + 1) (AC.lc (AC.mk a0 (Mp.nil : (Mp 2 (Sl Int)))) low.length 13 (g5 + 1))), (6, .v (.fn 82 [.agg (AC.lc (AC.mk a0 (Mp.nil : (Mp 2 (Sl Int)))) low.length 13 (g5 + 1))] [])), I_ 7 x19, C_ 10 (g37 + 1 + 1 + 1) (AL.mk x19 x30), (13, .mapo (g5 + 1) 2 (D4 y42)), E_ 20 a0.Pieces, I_ 21 a0.Pieces.len, I_ 22 x19, I_ 29 v25.Parts.len, I_ 30 x30] s ∧ s.low = low ∧ NoB BH s) l44 ?_ ⟨r, hl, hf⟩ ?_
     ·rintro ⟨x40, x41⟩ s out ⟨r, hl, hf⟩ k7
      dsimp only at r
      simp only [IM] at k7
      refine Ra hl hf ?_
      rintro g45 s r hl hf
      refine Bn r.2.2.2.2.2.2.2.2.2.2.2.2.2.2.2.1 k7 (fun c46 k7 => ?_) fun c46 k7 => ?_
      ·refine blk <| Ra hl hf ?_
       rintro g47 s r hl hf
       obtain ⟨o53, q54, k8⟩ := bnk k7
       refine nZ [C_ 2 g1 a0, (3, .box (g1 + 1) [.d (.fn 85 [] [])]), C_ 4 (g1 + 1 + 1) (AC.mk (BenchBook.mk (VoiceBook.mk (Sl.nil : (Sl AO)) 0 (Sl.nil : (Sl AN))) (Sl.nil : (Sl AM)) 0) (Mp.nil : (Mp 2 (Sl Int)))), (5, .box (g5 + 1 + 1 + 1 + 1 + 1 + 1) (AC.lc (AC.mk a0 (Mp.nil : (Mp 2 (Sl Int)))) low.length 13 (g5 + 1))), (6, .v (.fn 82 [.agg (AC.lc (AC.mk a0 (Mp.nil : (Mp 2 (Sl Int)))) low.length 13 (g5 + 1))] [])), I_ 7 x19, C_ 10 (g37 + 1 + 1 + 1) (AL.mk x19 x30), I_ 11 x41, (13, .mapo (g5 + 1) 2 (D4 x40)), E_ 20 a0.Pieces, I_ 21 a0.Pieces.len, I_ 22 x19, I_ 29 v25.Parts.len, I_ 30 x30, I_ 39 a0.Voice.Boys.len, I_ 40 x41, B_ 53 o53] hl hf ?_ ?_
       ·by_cases c49 : (J9 x41) = true
        ·rw [if_pos c49] at q54
         have e1 := oI q54
         obtain ⟨c48, hc48⟩ := Hk (LP := zL) (ds := [.int x41]) (IA x41); simp only [List.map_cons, List.map_nil] at hc48
         simp only [rs, ps, Bh, H9, JL, DT, hl, nob hf, r, hc48, c49, ← e1, reduceCtorEq, Nat.reduceEqDiff, Nat.reduceAdd]
        rw [if_neg c49] at q54
        have c49 := eq_false_of_ne_true c49
        obtain ⟨v50, h51, q72⟩ := bnd q54
        have e1 := oI q72
        obtain ⟨c48, hc48⟩ := Hk (LP := zL) (ds := [.int x41]) (IA x41); simp only [List.map_cons, List.map_nil] at hc48
        have f52 : ∀ (e : Env) (c : Nat), (om zL).call 82 [.agg (AC.lc (AC.mk a0 (Mp.nil : (Mp 2 (Sl Int)))) low.length 13 (g5 + 1)), .d (Enc.enc (AL.mk x19 x30)), .d (.int x41)] (low ++ [⟨e, none⟩]) c = some (.d (.bool (v50)), low ++ [⟨e, none⟩], UT zL 82 [.agg (AC.lc (AC.mk a0 (Mp.nil : (Mp 2 (Sl Int)))) low.length 13 (g5 + 1)), .d (Enc.enc (AL.mk x19 x30)), .d (.int x41)] (low ++ [⟨e, none⟩]) c) := fun e c => LY.om (KR (by first | omega | (simp only [List.length_append, List.length_cons, List.length_nil]; omega)) h51) c
        simp only [rs, ps, Bh, H9, JL, DT, hl, nob hf, r, hc48, c49, f52, ← e1, reduceCtorEq, Nat.reduceEqDiff, Nat.reduceAdd]
       rintro s r hl hf
       refine Bn r.2.2.2.2.2.2.2.2.2.2.2.2.2.2.2.2.1 k8 (fun c57 k8 => ?_) fun c57 k8 => ?_
       ·refine Ra hl hf ?_
        rintro g58 s r hl hf
        obtain rfl := oK k8
        exact ⟨rfl, r, hl, hf⟩
       obtain ⟨v59, h60, k9⟩ := bnk k8
       have q62 := @Pn
       have q63 := @Jv
       have q64 := @KP
       have q68 := DZ (sz := 1) (x := (OJ (Sl.nil : (Sl Int)) x40 (Bq.key (AL.mk x19 x30)))) (y := (Sl.cold [x41] : Sl Int)) rfl rfl h60
       refine Ra hl hf ?_ (h := by intro c; simp only [(Ug (n := 2) (AL.mk x19 x30) rfl (by decide)), (Tj (LP := zL) (t := 13) (gm := g5 + 1) (key := (Bq.key (AL.mk x19 x30))) (es := x40) (z := (Sl.nil : (Sl Int))) (hz := rfl)), (eo (LP := zL) (a := (OJ (Sl.nil : (Sl Int)) x40 (Bq.key (AL.mk x19 x30)))) (y := .d (.int (HY x40 (Bq.key (AL.mk x19 x30)))))), (SE (LP := zL) (x := Sl.lv (Sl.spent (OJ (Sl.nil : (Sl Int)) x40 (Bq.key (AL.mk x19 x30))))) (y := .int (HY x40 (Bq.key (AL.mk x19 x30))))), (SI (LP := zL) (t := 13) (gm := g5 + 1) (key := (Bq.key (AL.mk x19 x30))) (es := x40) (z := (Sl.nil : (Sl Int))) (a := v59)), rt, ps, nob hf, *, reduceCtorEq, Nat.reduceEqDiff, Nat.reduceAdd, Nat.reduceMul] <;> rfl)
       rintro g61 s r hl hf
       refine Ra hl hf ?_
       rintro g71 s r hl hf
       obtain rfl := oK k9
       exact ⟨rfl, r, hl, hf⟩
      obtain rfl := oK k7
      exact ⟨by decide, ⟨rfl, ⟨r.1, r.2.1, r.2.2.1, r.2.2.2.1, r.2.2.2.2.1, r.2.2.2.2.2.1, r.2.2.2.2.2.2.1, r.2.2.2.2.2.2.2.1, r.2.2.2.2.2.2.2.2.1, r.2.2.2.2.2.2.2.2.2.1, r.2.2.2.2.2.2.2.2.2.2.1, r.2.2.2.2.2.2.2.2.2.2.2.1, r.2.2.2.2.2.2.2.2.2.2.2.2.1, trivial⟩, hl, hf⟩⟩
     intro j s hq
     obtain ⟨y42, rfl⟩ : ∃ x, x = o43 := ⟨_, rfl⟩
     try dsimp only at k6 hq
     obtain ⟨rfl, r, hl, hf⟩ := hq
     refine Ra hl hf ?_
     rintro g73 s r hl hf
     obtain rfl := oK k6
     exact ⟨rfl, r, hl, hf⟩
    obtain rfl := oK k5
    exact ⟨by decide, ⟨rfl, ⟨r.1, r.2.1, r.2.2.1, r.2.2.2.1, r.2.2.2.2.1, r.2.2.2.2.2.2.1, r.2.2.2.2.2.2.2.1, r.2.2.2.2.2.2.2.2.1, r.2.2.2.2.2.2.2.2.2.1, trivial⟩, hl, hf⟩⟩
   intro j s hq
   obtain ⟨y31, rfl⟩ : ∃ x, x = o32 := ⟨_, rfl⟩
   try dsimp only at k4 hq
   obtain ⟨rfl, r, hl, hf⟩ := hq
   refine Ra hl hf ?_
   rintro g74 s r hl hf
   obtain rfl := oK k4
   exact ⟨rfl, r, hl, hf⟩
  obtain rfl := oK k2
  exact ⟨by decide, ⟨rfl, ⟨r.1, r.2.1, r.2.2.1, r.2.2.2.1, r.2.2.2.2.2.1, trivial⟩, hl, hf⟩⟩
 intro j s hq
 obtain ⟨y20, rfl⟩ : ∃ x, x = o21 := ⟨_, rfl⟩
 try dsimp only at k1 hq
 obtain ⟨rfl, r, hl, hf⟩ := hq
 have q76 := @GM
 have q77 := @IL
 have q78 := @EB
 refine Ra hl hf ?_
 rintro g75 s r hl hf
 cases oK k1
 exact ⟨Or.inr rfl, hl, AH (MP (by rw [hl]; exact r.1) r.2.1)⟩
theorem aD {a0 : BenchBook} {a1 : Bool} {r : (AC × Int)} (k0 : Bg a0 a1 = some r) : Fin zL 27 [Enc.enc a0, .bool a1] (Enc.enc r) := by
 unfold Bg at k0; replace k0 := kq k0
 refine fnN ej eq ?_
 rintro low s r hl hf
 have q26 := @R2
 have q27 := @fV
 have q2 := @JE
 refine Ra hl hf ?_
 rintro g1 s r hl hf
 obtain ⟨v3, h4, k1⟩ := bnk k0
 refine Ra hl hf ?_
 rintro g5 s r hl hf
 refine Ra hl hf ?_
 rintro g6 s r hl hf
 refine JV r.2.2.2.2.1 k1 (fun c7 k1 => ?_) fun c7 k1 => ?_
 ·refine Ra hl hf ?_
  rintro g8 s r hl hf
  refine JV r.2.2.1 k1 (fun c9 k1 => ?_) fun c9 k1 => ?_
  ·obtain ⟨v10, h11, k2⟩ := bnk k1
   refine Ra hl hf ?_
   rintro g12 s r hl hf
   refine Ra hl hf ?_
   rintro g13 s r hl hf
   refine JV r.2.2.1 k2 (fun c14 k2 => ?_) fun c14 k2 => ?_
   ·obtain ⟨v15, h16, k3⟩ := bnk k2
    have q18 := Fin.call (LP := zL) (n := 60) (ds := []) (v := .agg [.fn 85 [] []]) (Oc)
    have q19 := LY.call (LP := zL) (ds := [Enc.enc a0, .agg [.fn 85 [] []]]) (UV h16)
    refine Ra hl hf ?_
    rintro g17 s r hl hf
    cases oK k3
    exact ⟨Or.inr rfl, hl, Av (Cm r.1 rfl) (AE r.2.1)⟩
   have q21 := @Me
   refine Ra hl hf ?_
   rintro g20 s r hl hf
   cases oK k2
   exact ⟨Or.inr rfl, hl, Av (Cm r.1 rfl) (AE r.2.1)⟩
  have q23 := @Me
  refine Ra hl hf ?_
  rintro g22 s r hl hf
  cases oK k1
  exact ⟨Or.inr rfl, hl, Av (Cm r.1 rfl) (AE r.2.1)⟩
 have q25 := @Me
 refine Ra hl hf ?_
 rintro g24 s r hl hf
 cases oK k1
 exact ⟨Or.inr rfl, hl, Av (Cm r.1 rfl) (AE r.2.1)⟩
def EF := fun a0 a1 => Cq.mk (@aD a0 a1)
theorem kH {a0 : BenchBook} {a1 : Int} {a2 : Int} {r : ((Sl Int) × Int)} (k0 : Lx a0 a1 a2 = some r) : Fin zL 6 [Enc.enc a0, .int a1, .int a2] (Enc.enc r) := by
 unfold Lx at k0; replace k0 := kq k0
 refine fnN mi mQ ?_
 rintro low s r hl hf
 have q23 := @EF
 have q24 := @J4
 have q25 := @LW
 refine Ra hl hf ?_
 rintro g1 s r hl hf
 obtain ⟨⟨o9, o10⟩, q, k1⟩ := bnk k0
 try dsimp only at k1
 refine Rq (fun g12 => [C_ 8 (g12 + 1 + 1 + 1 + 1 + 1 + 1 + 1 + 1 + 1 + 1 + 1 + 1 + 1 + 1 + 1 + 1 + 1 + 1 + 1 + 1) o9, I_ 9 o10]) hl hf q ?_
 rintro g12 s r hl hf
 refine Ra hl hf ?_
 rintro g13 s r hl hf
 refine JV r.2.2.2.2.1 k1 (fun c14 k1 => ?_) fun c14 k1 => ?_
 ·have q16 := @Ff
  have q17 := fun s ro => fM (n := 2) s ro o9.able (AL.mk a1 a2) (Sl.nil : (Sl Int)) (.nils) rfl (by decide) rfl
  refine Ra hl hf ?_
  rintro g15 s r hl hf
  obtain ⟨v18, h19, k2⟩ := bnk k1
  have q21 := Lm (sz := 1) rfl h19
  refine Ra hl hf ?_
  rintro g20 s r hl hf
  cases oK k2
  exact ⟨Or.inr rfl, hl, Av (fy r.1) (AE r.2.1)⟩
 refine Ra hl hf ?_
 rintro g22 s r hl hf
 cases oK k1
 exact ⟨Or.inr rfl, hl, Av (AE r.1) (AE r.2.1)⟩
def X8 := fun a0 a1 a2 => Cq.mk (@kH a0 a1 a2)
theorem fR (a0 : Int) (a1 : Int) (a2 : Int) : Fin zL 35 [.int a0, .int a1, .int a2] (.bool (Ai a0 a1 a2)) := by
 refine fnN jJ jd ?_
 rintro low s r hl hf
 refine Ra hl hf ?_
 rintro g1 s r hl hf
 refine Rx (fun g4 => [B_ 6 ((decide (a1 ≤ a0)) && (decide (a0 ≤ a2)))]) hl hf ?_
 rintro g4 s r hl hf
 exact ⟨Or.inr rfl, hl, AH (AE r.1)⟩
def Dj := fun a0 a1 a2 => (fR a0 a1 a2).call
theorem Vv (a0 : BenchBook) (a1 : Int) : Fin zL 39 [Enc.enc a0, .int a1] (.bool (GX a0 a1)) := by
 refine fnN XD Ye ?_
 rintro low s r hl hf
 have q3 := @Dj
 refine Ra hl hf ?_
 rintro g1 s r hl hf
 refine Ra hl hf ?_
 rintro g2 s r hl hf
 exact ⟨Or.inr rfl, hl, AH (AE r.1)⟩
def OQ := fun a0 a1 => (Vv a0 a1).call
theorem YP {a0 : BenchBook} {a1 : Int} {a2 : Int} {r : Bool} (k0 : EI a0 a1 a2 = some r) : Fin zL 31 [Enc.enc a0, .int a1, .int a2] (.bool r) := by
 unfold EI at k0; replace k0 := kq k0
 refine fnN Zr bm ?_
 rintro low s r hl hf
 have q8 := @Dj
 have q9 := @OQ
 refine Ra hl hf ?_
 rintro g1 s r hl hf
 obtain ⟨o5, q, k1⟩ := bnk k0
 refine Rq (fun g7 => [B_ 6 o5]) hl hf q ?_
 rintro g7 s r hl hf
 cases oK k1
 exact ⟨Or.inr rfl, hl, AH (AE r.1)⟩
def Qd := fun a0 a1 a2 => Cq.mk (@YP a0 a1 a2)
theorem gZ (a0 : Fo) (a1 : Int) (a2 : Int) (a3 : Int) : Fin zL 36 [Enc.enc a0, .int a1, .int a2, .int a3] (.bool (BR a0 a1 a2 a3)) := by
 refine fnN jr j6 ?_
 rintro low s r hl hf
 refine Ra hl hf ?_
 rintro g1 s r hl hf
 refine Rx (fun g6 => [B_ 8 ((decide (a1 ≤ a0.Low)) && ((decide (a0.Low ≤ a0.High)) && ((decide (a0.High ≤ a2)) && (decide ((W (a0.High - a0.Low)) ≤ a3)))))]) hl hf ?_
 rintro g6 s r hl hf
 exact ⟨Or.inr rfl, hl, AH (AE r.1)⟩
def VR := fun a0 a1 a2 a3 => (gZ a0 a1 a2 a3).call
theorem aX (a0 : VoiceBook) (a1 : Int) : Fin zL 91 [Enc.enc a0, .int a1] (.bool (Ii a0 a1)) := by
 refine fnN eb eC ?_
 rintro low s r hl hf
 have q3 := @Dj
 refine Ra hl hf ?_
 rintro g1 s r hl hf
 refine Ra hl hf ?_
 rintro g2 s r hl hf
 exact ⟨Or.inr rfl, hl, AH (AE r.1)⟩
def S3 := fun a0 a1 => (aX a0 a1).call
theorem YY (a0 : VoiceBook) (a1 : Int) : Fin zL 92 [Enc.enc a0, .int a1] (.bool (HL a0 a1)) := by
 refine fnN aY av ?_
 rintro low s r hl hf
 have q3 := @Dj
 refine Ra hl hf ?_
 rintro g1 s r hl hf
 refine Ra hl hf ?_
 rintro g2 s r hl hf
 exact ⟨Or.inr rfl, hl, AH (AE r.1)⟩
def QM := fun a0 a1 => (YY a0 a1).call
theorem ZJ (a0 : Int) : Fin zL 93 [.int a0] (.bool (HS a0)) := by
 refine fnN Z2 Zk ?_
 rintro low s r hl hf
 have q3 := @Dj
 refine Ra hl hf ?_
 rintro g1 s r hl hf
 refine Ra hl hf ?_
 rintro g2 s r hl hf
 exact ⟨Or.inr rfl, hl, AH (AE r.1)⟩
def QN := fun a0 => (ZJ a0).call
theorem WQ (a0 : VoiceBook) (a1 : AN) : Fin zL 67 [Enc.enc a0, Enc.enc a1] (.bool (NG a0 a1)) := by
 refine fnN Wn XB ?_
 rintro low s r hl hf
 have q7 := @Dj
 have q8 := @S3
 have q9 := @QN
 have q10 := @QM
 refine Ra hl hf ?_
 rintro g1 s r hl hf
 refine Rx (fun g6 => [B_ 4 ((Ii a0 a1.Boy) && ((HL a0 a1.Week) && ((HS a1.Note) && (Ai a1.Sang 0 1))))]) hl hf ?_
 rintro g6 s r hl hf
 exact ⟨Or.inr rfl, hl, AH (AE r.1)⟩
def Yl := fun a0 a1 => (WQ a0 a1).call
theorem Z3 {a0 : VoiceBook} {r : Int} (k0 : Ft a0 = some r) : Fin zL 34 [Enc.enc a0] (.int r) := by
 unfold Ft at k0; replace k0 := kq k0
 refine fnN H6 fb ?_
 rintro low s r hl hf
 have q45 := @VR
 have q46 := @Dj
 have q47 := @Yl
 refine Ra hl hf ?_
 rintro g1 s r hl hf
 refine Rx (fun g5 => [B_ 3 ((Ai a0.Boys.len 1 4) && ((Ai a0.Weeks 1 6) && (decide (a0.Trials.len ≤ 6))))]) hl hf ?_
 rintro g5 s r hl hf
 refine Ra hl hf ?_
 rintro g6 s r hl hf
 refine blk ?_
 obtain ⟨o10, l11, k1⟩ := bnk k0
 refine AY (f := Eb a0) (E := fun (x : Bool × Int) s => BG [C_ 1 g1 a0, B_ 3 x.1, I_ 4 x.2] s ∧ s.low = low ∧ NoB H6 s) (Q := fun (y9 : Bool) j s => j = .exit 0 ∧ BG [C_ 1 g1 a0, B_ 3 y9] s ∧ s.low = low ∧ NoB H6 s) l11 ?_ ⟨r, hl, hf⟩ ?_
 ·rintro ⟨x7, x8⟩ s out ⟨r, hl, hf⟩ k2
  dsimp only at r
  simp only [Eb] at k2
  refine Rx (fun g14 => [B_ 29 (x7 && (decide (x8 < a0.Boys.len)))]) hl hf ?_
  rintro g14 s r hl hf
  refine Bn r.2.2.2.1 k2 (fun c15 k2 => ?_) fun c15 k2 => ?_
  ·refine blk ?_
   obtain ⟨v16, h17, k3⟩ := bnk k2
   refine Ra hl hf ?_
   rintro g18 s r hl hf
   refine Rx (fun g25 => [B_ 3 ((BR v16.Low 0 40 2) && ((BR v16.High 0 40 2) && ((BR v16.Gain 0 2 1) && ((BR v16.Turn 0 6 2) && ((Ai v16.Loss 0 2) && (BR v16.Break 0 9 3))))))]) hl hf ?_
   rintro g25 s r hl hf
   refine Ra hl hf ?_
   rintro g26 s r hl hf
   obtain rfl := oK k3
   exact ⟨rfl, r, hl, hf⟩
  obtain rfl := oK k2
  exact ⟨by decide, ⟨rfl, ⟨r.1, r.2.1, trivial⟩, hl, hf⟩⟩
 intro j s hq
 obtain ⟨y9, rfl⟩ : ∃ x, x = o10 := ⟨_, rfl⟩
 try dsimp only at k1 hq
 obtain ⟨rfl, r, hl, hf⟩ := hq
 refine Ra hl hf ?_
 rintro g27 s r hl hf
 refine blk ?_
 obtain ⟨o31, l32, k4⟩ := bnk k1
 refine AY (f := ET a0) (E := fun (x : Bool × Int) s => BG [C_ 1 g1 a0, B_ 3 x.1, I_ 6 x.2] s ∧ s.low = low ∧ NoB H6 s) (Q := fun (y30 : Bool) j s => j = .exit 2 ∧ BG [C_ 1 g1 a0, B_ 3 y30] s ∧ s.low = low ∧ NoB H6 s) l32 ?_ ⟨r, hl, hf⟩ ?_
 ·rintro ⟨x28, x29⟩ s out ⟨r, hl, hf⟩ k5
  dsimp only at r
  simp only [ET] at k5
  refine Rx (fun g35 => [B_ 72 (x28 && (decide (x29 < a0.Trials.len)))]) hl hf ?_
  rintro g35 s r hl hf
  refine Bn r.2.2.2.1 k5 (fun c36 k5 => ?_) fun c36 k5 => ?_
  ·refine blk ?_
   obtain ⟨v37, h38, k6⟩ := bnk k5
   refine Ra hl hf ?_
   rintro g39 s r hl hf
   refine Ra hl hf ?_
   rintro g40 s r hl hf
   obtain rfl := oK k6
   exact ⟨rfl, r, hl, hf⟩
  obtain rfl := oK k5
  exact ⟨by decide, ⟨rfl, ⟨r.1, r.2.1, trivial⟩, hl, hf⟩⟩
 intro j s hq
 obtain ⟨y30, rfl⟩ : ∃ x, x = o31 := ⟨_, rfl⟩
 try dsimp only at k4 hq
 obtain ⟨rfl, r, hl, hf⟩ := hq
 refine Ra hl hf ?_
 rintro g41 s r hl hf
 refine JV r.1 k4 (fun c42 k4 => ?_) fun c42 k4 => ?_
 ·refine Ra hl hf ?_
  rintro g43 s r hl hf
  cases oK k4
  exact ⟨Or.inr rfl, hl, AH (AE r.1)⟩
 refine Ra hl hf ?_
 rintro g44 s r hl hf
 cases oK k4
 exact ⟨Or.inr rfl, hl, AH (AE r.1)⟩
def M9 := fun a0 => Cq.mk (@Z3 a0)
theorem aM {a0 : BenchBook} {r : Int} (k0 : IR a0 = some r) : Fin zL 10 [Enc.enc a0] (.int r) := by
 unfold IR at k0; replace k0 := kq k0
 refine fnN H2 eF ?_
 rintro low s r hl hf
 have q47 := @VR
 have q48 := @Dj
 have q49 := @M9
 refine Ra hl hf ?_
 rintro g1 s r hl hf
 obtain ⟨o6, q, k1⟩ := bnk k0
 refine Rq (fun g8 => [B_ 3 o6]) hl hf q ?_
 rintro g8 s r hl hf
 refine Ra hl hf ?_
 rintro g9 s r hl hf
 refine blk ?_
 obtain ⟨o13, l14, k2⟩ := bnk k1
 refine AY (f := EZ a0) (E := fun (x : Bool × Int) s => BG [C_ 1 g1 a0, B_ 3 x.1, I_ 4 x.2] s ∧ s.low = low ∧ NoB H2 s) (Q := fun (y12 : Bool) j s => j = .exit 0 ∧ BG [C_ 1 g1 a0, B_ 3 y12] s ∧ s.low = low ∧ NoB H2 s) l14 ?_ ⟨r, hl, hf⟩ ?_
 ·rintro ⟨x10, x11⟩ s out ⟨r, hl, hf⟩ k3
  dsimp only at r
  simp only [EZ] at k3
  refine Rx (fun g17 => [B_ 29 (x10 && (decide (x11 < a0.Pieces.len)))]) hl hf ?_
  rintro g17 s r hl hf
  refine Bn r.2.2.2.1 k3 (fun c18 k3 => ?_) fun c18 k3 => ?_
  ·refine blk ?_
   obtain ⟨v19, h20, k4⟩ := bnk k3
   refine Ra hl hf ?_
   rintro g21 s r hl hf
   refine Rx (fun g24 => [B_ 3 ((Ai v19.Week 0 (W (a0.Voice.Weeks - 1))) && (Ai v19.Parts.len 1 3))]) hl hf ?_
   rintro g24 s r hl hf
   refine Ra hl hf ?_
   rintro g25 s r hl hf
   refine blk ?_
   obtain ⟨o29, l30, k5⟩ := bnk k4
   refine AY (f := EW v19) (E := fun (x : Bool × Int) s => BG [C_ 1 g1 a0, B_ 3 x.1, I_ 4 x11, C_ 5 (g21 + 1 + 1 + 1 + 1 + 1) v19, I_ 6 x.2] s ∧ s.low = low ∧ NoB H2 s) (Q := fun (y28 : Bool) j s => j = .exit 2 ∧ BG [C_ 1 g1 a0, B_ 3 y28, I_ 4 x11, C_ 5 (g21 + 1 + 1 + 1 + 1 + 1) v19] s ∧ s.low = low ∧ NoB H2 s) l30 ?_ ⟨r, hl, hf⟩ ?_
   ·rintro ⟨x26, x27⟩ s out ⟨r, hl, hf⟩ k6
    dsimp only at r
    simp only [EW] at k6
    refine Rx (fun g33 => [B_ 57 (x26 && (decide (x27 < v19.Parts.len)))]) hl hf ?_
    rintro g33 s r hl hf
    refine Bn r.2.2.2.2.2.1 k6 (fun c34 k6 => ?_) fun c34 k6 => ?_
    ·refine blk ?_
     obtain ⟨o38, q, k7⟩ := bnk k6
     refine Rq (fun g40 => [B_ 3 o38]) hl hf q ?_
     rintro g40 s r hl hf
     refine Ra hl hf ?_
     rintro g41 s r hl hf
     obtain rfl := oK k7
     exact ⟨rfl, r, hl, hf⟩
    obtain rfl := oK k6
    exact ⟨by decide, ⟨rfl, ⟨r.1, r.2.1, r.2.2.1, r.2.2.2.1, trivial⟩, hl, hf⟩⟩
   intro j s hq
   obtain ⟨y28, rfl⟩ : ∃ x, x = o29 := ⟨_, rfl⟩
   try dsimp only at k5 hq
   obtain ⟨rfl, r, hl, hf⟩ := hq
   refine Ra hl hf ?_
   rintro g42 s r hl hf
   obtain rfl := oK k5
   exact ⟨rfl, r, hl, hf⟩
  obtain rfl := oK k3
  exact ⟨by decide, ⟨rfl, ⟨r.1, r.2.1, trivial⟩, hl, hf⟩⟩
 intro j s hq
 obtain ⟨y12, rfl⟩ : ∃ x, x = o13 := ⟨_, rfl⟩
 try dsimp only at k2 hq
 obtain ⟨rfl, r, hl, hf⟩ := hq
 refine Ra hl hf ?_
 rintro g43 s r hl hf
 refine JV r.1 k2 (fun c44 k2 => ?_) fun c44 k2 => ?_
 ·refine Ra hl hf ?_
  rintro g45 s r hl hf
  cases oK k2
  exact ⟨Or.inr rfl, hl, AH (AE r.1)⟩
 refine Ra hl hf ?_
 rintro g46 s r hl hf
 cases oK k2
 exact ⟨Or.inr rfl, hl, AH (AE r.1)⟩
def TZ := fun a0 => Cq.mk (@aM a0)
theorem jA {a0 : Int} {a1 : Int} {r : Bool} (k0 : F3 a0 a1 = some r) : Fin zL 62 [.int a0, .int a1] (.bool r) := by
 unfold F3 at k0; replace k0 := kq k0
 refine fnN nb nT ?_
 rintro low s r hl hf
 refine Ra hl hf ?_
 rintro g1 s r hl hf
 obtain ⟨o8, q9, k1⟩ := bnk k0
 refine nZ [B_ 4 o8] hl hf ?_ ?_
 ·by_cases c2 : (decide (0 ≤ a1)) = true
  ·rw [if_pos c2] at q9
   by_cases c3 : (decide (a1 < 62)) = true
   ·rw [if_pos c3] at q9
    obtain ⟨v4, h5, q12⟩ := bnd q9
    obtain ⟨v6, h7, q13⟩ := bnd q12
    have e1 := oI q13
    simp only [rs, hl, nob hf, r, c2, c3, (SN h5), (SN h7), ← e1, reduceCtorEq, Nat.reduceEqDiff, Nat.reduceAdd]
   rw [if_neg c3] at q9
   have c3 := eq_false_of_ne_true c3
   have e1 := oI q9
   simp only [rs, hl, nob hf, r, c2, c3, ← e1, reduceCtorEq, Nat.reduceEqDiff, Nat.reduceAdd]
  rw [if_neg c2] at q9
  have c2 := eq_false_of_ne_true c2
  have e1 := oI q9
  simp only [rs, hl, nob hf, r, c2, ← e1, reduceCtorEq, Nat.reduceEqDiff, Nat.reduceAdd]
 rintro s r hl hf
 cases oK k1
 exact ⟨Or.inr rfl, hl, AH (AE r.1)⟩
def Q4 := fun a0 a1 => Cq.mk (@jA a0 a1)
theorem kd (a0 : AD) (a1 : Int) : Fin zL 118 [Enc.enc a0, .int a1] (.int (Yj a0 a1)) := by
 refine fnN mf m0 ?_
 rintro low s r hl hf
 refine Ra hl hf ?_
 rintro g1 s r hl hf
 have q3 := @dk
 refine Ra hl hf ?_
 rintro g2 s r hl hf
 refine Ra hl hf ?_
 rintro g4 s r hl hf
 exact ⟨Or.inr rfl, hl, AH (AE r.1)⟩
def mU := fun a0 a1 => (kd a0 a1).call
theorem lN (a0 : AD) (a1 : Int) (a2 : Int) : Fin zL 116 [Enc.enc a0, .int a1, .int a2] (.bool (Rt a0 a1 a2)) := by
 refine fnN mr nJ ?_
 rintro low s r hl hf
 have q5 := @Dj
 have q6 := @mU
 refine Ra hl hf ?_
 rintro g1 s r hl hf
 refine Rx (fun g4 => [B_ 6 ((decide (a1 < a0.Break)) && (Ai a2 a0.Low (Yj a0 a1)))]) hl hf ?_
 rintro g4 s r hl hf
 exact ⟨Or.inr rfl, hl, AH (AE r.1)⟩
def Ww := fun a0 a1 a2 => (lN a0 a1 a2).call
theorem az {a0 : VoiceBook} {a1 : Int} {a2 : AD} {a3 : Int} {r : Bool} (k0 : J8 a0 a1 a2 a3 = some r) : Fin zL 115 [Enc.enc a0, .int a1, Enc.enc a2, .int a3] (.bool r) := by
 unfold J8 at k0; replace k0 := kq k0
 refine fnN MZ TG ?_
 rintro low s r hl hf
 have q23 := @Q4
 have q24 := @Ww
 refine Ra hl hf ?_
 rintro g1 s r hl hf
 refine Ra hl hf ?_
 rintro g2 s r hl hf
 refine blk ?_
 obtain ⟨o5, l6, k1⟩ := bnk k0
 refine AY (f := FH a0 a1 a2 a3) (E := fun (x : Int) s => BG [I_ 1 a1, I_ 3 a3, C_ 4 g1 a0, C_ 6 (g1 + 1) a2, I_ 9 x] s ∧ s.low = low ∧ NoB MZ s) (Q := fun (o : ((Bool) ⊕ (Unit))) j s => match o with | .inl w4 => j = .ret ∧ FnJ TG.1 low (.d (.bool w4)) .ret s | .inr _ => j = .exit 0 ∧ BG [C_ 4 g1 a0, C_ 6 (g1 + 1) a2] s ∧ s.low = low ∧ NoB MZ s) l6 ?_ ⟨r, hl, hf⟩ ?_
 ·rintro x3 s out ⟨r, hl, hf⟩ k2
  unfold FH at k2
  refine Ra hl hf ?_
  rintro g7 s r hl hf
  refine Bn r.2.2.2.2.2.1 k2 (fun c8 k2 => ?_) fun c8 k2 => ?_
  ·refine blk ?_
   obtain ⟨v9, h10, k3⟩ := bnk k2
   refine Ra hl hf ?_
   rintro g11 s r hl hf
   obtain ⟨o16, q, k4⟩ := bnk k3
   refine Rq (fun g18 => [B_ 44 o16]) hl hf q ?_
   rintro g18 s r hl hf
   refine Bn r.2.2.2.2.2.1 k4 (fun c19 k4 => ?_) fun c19 k4 => ?_
   ·refine Ra hl hf ?_
    rintro g20 s r hl hf
    obtain rfl := oK k4
    exact ⟨by decide, ⟨rfl, ⟨Or.inr rfl, hl, AH (AE r.1)⟩⟩⟩
   refine Ra hl hf ?_
   rintro g21 s r hl hf
   obtain rfl := oK k4
   exact ⟨rfl, r, hl, hf⟩
  obtain rfl := oK k2
  exact ⟨by decide, ⟨rfl, ⟨r.2.2.1, r.2.2.2.1, trivial⟩, hl, hf⟩⟩
 intro j s hq
 rcases o5 with w4 | _
 ·try dsimp only at k1 hq
  obtain ⟨rfl, hq⟩ := hq
  cases oK k1
  exact hq
 try dsimp only at k1 hq
 obtain ⟨rfl, r, hl, hf⟩ := hq
 refine Ra hl hf ?_
 rintro g22 s r hl hf
 cases oK k1
 exact ⟨Or.inr rfl, hl, AH (AE r.1)⟩
def eL := fun a0 a1 a2 a3 => Cq.mk (@az a0 a1 a2 a3)
theorem YS {a0 : VoiceBook} {a1 : Int} {a2 : Int} {r : (Sl AD)} (k0 : F6 a0 a1 a2 = some r) : Fin zL 103 [Enc.enc a0, .int a1, .int a2] (Enc.enc r) := by
 unfold F6 at k0; replace k0 := kq k0
 refine fnN BX aS ?_
 rintro low s r hl hf
 have q69 := @eL
 refine Ra hl hf ?_
 rintro g1 s r hl hf
 refine Ra hl hf ?_
 rintro g2 s r hl hf
 obtain ⟨v3, h4, k1⟩ := bnk k0
 refine Ra hl hf ?_
 rintro g5 s r hl hf
 have q7 := @WE
 refine Ra hl hf ?_
 rintro g6 s r hl hf
 refine Ra hl hf ?_
 rintro g8 s r hl hf
 refine blk ?_
 obtain ⟨o13, l14, k2⟩ := bnk k1
 refine AY (f := Dx a0 a1 a2 v3) (E := fun (x : (Sl AD) × AD) s => BG [I_ 1 a1, I_ 2 a2, C_ 3 g1 a0, (7, .v (Sl.lv x.1)), C_ 8 (g5 + 1 + 1 + 1 + 1 + 1) v3, C_ 9 (g6 + 1 + 1 + 1) x.2] s ∧ s.low = low ∧ NoB BX s) (Q := fun (o : (Sl AD) × AD) j s => match o with | (y11, y12) => j = .exit 0 ∧ BG [C_ 3 g1 a0, (7, .v (Sl.lv y11)), C_ 8 (g5 + 1 + 1 + 1 + 1 + 1) v3, C_ 9 (g6 + 1 + 1 + 1) y12] s ∧ s.low = low ∧ NoB BX s) l14 ?_ ⟨r, hl, hf⟩ ?_
 ·rintro ⟨x9, x10⟩ s out ⟨r, hl, hf⟩ k3
  dsimp only at r
  simp only [Dx] at k3
  refine Ra hl hf ?_
  rintro g15 s r hl hf
  refine Bn r.2.2.2.2.2.2.1 k3 (fun c16 k3 => ?_) fun c16 k3 => ?_
  ·refine blk <| Ra hl hf ?_
   rintro g17 s r hl hf
   refine blk ?_
   obtain ⟨o22, l23, k4⟩ := bnk k3
   refine AY (f := Du a0 a1 a2 v3) (E := fun (x : (Sl AD) × AD) s => BG [I_ 1 a1, I_ 2 a2, C_ 3 g1 a0, (7, .v (Sl.lv x.1)), C_ 8 (g5 + 1 + 1 + 1 + 1 + 1) v3, C_ 9 (g6 + 1 + 1 + 1) x.2] s ∧ s.low = low ∧ NoB BX s) (Q := fun (o : (Sl AD) × AD) j s => match o with | (y20, y21) => j = .exit 2 ∧ BG [I_ 1 a1, I_ 2 a2, C_ 3 g1 a0, (7, .v (Sl.lv y20)), C_ 8 (g5 + 1 + 1 + 1 + 1 + 1) v3, C_ 9 (g6 + 1 + 1 + 1) y21] s ∧ s.low = low ∧ NoB BX s) l23 ?_ ⟨r, hl, hf⟩ ?_
   ·rintro ⟨x18, x19⟩ s out ⟨r, hl, hf⟩ k5
    dsimp only at r
    simp only [Du] at k5
    refine Ra hl hf ?_
    rintro g24 s r hl hf
    refine Bn r.2.2.2.2.2.2.1 k5 (fun c25 k5 => ?_) fun c25 k5 => ?_
    ·refine blk <| Ra hl hf ?_
     rintro g26 s r hl hf
     refine blk ?_
     obtain ⟨o31, l32, k6⟩ := bnk k5
     refine AY (f := D2 a0 a1 a2 v3) (E := fun (x : (Sl AD) × AD) s => BG [I_ 1 a1, I_ 2 a2, C_ 3 g1 a0, (7, .v (Sl.lv x.1)), C_ 8 (g5 + 1 + 1 + 1 + 1 + 1) v3, C_ 9 (g6 + 1 + 1 + 1) x.2] s ∧ s.low = low ∧ NoB BX s) (Q := fun (o : (Sl AD) × AD) j s => match o with | (y29, y30) => j = .exit 4 ∧ BG [I_ 1 a1, I_ 2 a2, C_ 3 g1 a0, (7, .v (Sl.lv y29)), C_ 8 (g5 + 1 + 1 + 1 + 1 + 1) v3, C_ 9 (g6 + 1 + 1 + 1) y30] s ∧ s.low = low ∧ NoB BX s) l32 ?_ ⟨r, hl, hf⟩ ?_
     ·rintro ⟨x27, x28⟩ s out ⟨r, hl, hf⟩ k7
      dsimp only at r
      simp only [D2] at k7
      refine Ra hl hf ?_
      rintro g33 s r hl hf
      refine Bn r.2.2.2.2.2.2.1 k7 (fun c34 k7 => ?_) fun c34 k7 => ?_
      ·refine blk <| Ra hl hf ?_
       rintro g35 s r hl hf
       refine blk ?_
       obtain ⟨o40, l41, k8⟩ := bnk k7
       refine AY (f := Dv a0 a1 a2 v3) (E := fun (x : (Sl AD) × AD) s => BG [I_ 1 a1, I_ 2 a2, C_ 3 g1 a0, (7, .v (Sl.lv x.1)), C_ 8 (g5 + 1 + 1 + 1 + 1 + 1) v3, C_ 9 (g6 + 1 + 1 + 1) x.2] s ∧ s.low = low ∧ NoB BX s) (Q := fun (o : (Sl AD) × AD) j s => match o with | (y38, y39) => j = .exit 6 ∧ BG [I_ 1 a1, I_ 2 a2, C_ 3 g1 a0, (7, .v (Sl.lv y38)), C_ 8 (g5 + 1 + 1 + 1 + 1 + 1) v3, C_ 9 (g6 + 1 + 1 + 1) y39] s ∧ s.low = low ∧ NoB BX s) l41 ?_ ⟨r, hl, hf⟩ ?_
       ·rintro ⟨x36, x37⟩ s out ⟨r, hl, hf⟩ k9
        dsimp only at r
        simp only [Dv] at k9
        refine Ra hl hf ?_
        rintro g42 s r hl hf
        refine Bn r.2.2.2.2.2.2.1 k9 (fun c43 k9 => ?_) fun c43 k9 => ?_
        ·refine blk <| Ra hl hf ?_
         rintro g44 s r hl hf
         refine blk ?_
         obtain ⟨o49, l50, k10⟩ := bnk k9
         refine AY (f := Dw a0 a1 a2 v3) (E := fun (x : (Sl AD) × AD) s => BG [I_ 1 a1, I_ 2 a2, C_ 3 g1 a0, (7, .v (Sl.lv x.1)), C_ 8 (g5 + 1 + 1 + 1 + 1 + 1) v3, C_ 9 (g6 + 1 + 1 + 1) x.2] s ∧ s.low = low ∧ NoB BX s) (Q := fun (o : (Sl AD) × AD) j s => match o with | (y47, y48) => j = .exit 8 ∧ BG [I_ 1 a1, I_ 2 a2, C_ 3 g1 a0, (7, .v (Sl.lv y47)), C_ 8 (g5 + 1 + 1 + 1 + 1 + 1) v3, C_ 9 (g6 + 1 + 1 + 1) y48] s ∧ s.low = low ∧ NoB BX s) l50 ?_ ⟨r, hl, hf⟩ ?_
         ·rintro ⟨x45, x46⟩ s out ⟨r, hl, hf⟩ k11
          dsimp only at r
          simp only [Dw] at k11
          refine Ra hl hf ?_
          rintro g51 s r hl hf
          refine Bn r.2.2.2.2.2.2.1 k11 (fun c52 k11 => ?_) fun c52 k11 => ?_
          ·obtain ⟨o54, k12, k13⟩ := bnk k11
           replace k12 := kq k12
           refine ABU (Q := (fun (y53 : (Sl AD)) j s => j = .normal ∧ BG [I_ 1 a1, I_ 2 a2, C_ 3 g1 a0, (7, .v (Sl.lv y53)), C_ 8 (g5 + 1 + 1 + 1 + 1 + 1) v3, C_ 9 (g6 + 1 + 1 + 1) x46] s ∧ s.low = low ∧ NoB BX s) o54) ?_ ?_
           ·refine blk ?_
            obtain ⟨v55, h56, k14⟩ := bnk k12
            refine Ra hl hf ?_
            rintro g57 s r hl hf
            refine Bn r.2.2.2.2.2.2.1 k14 (fun c58 k14 => ?_) fun c58 k14 => ?_
            ·obtain ⟨v59, h60, k15⟩ := bnk k14
             have q62 := DZ (sz := 6) (x := x45) (y := (Sl.cold [x46] : Sl AD)) rfl rfl h60
             refine Ra hl hf ?_
             rintro g61 s r hl hf
             obtain rfl := oK k15
             exact ⟨rfl, r, hl, hf⟩
            obtain rfl := oK k14
            exact ⟨rfl, ⟨r.1, r.2.1, r.2.2.1, r.2.2.2.1, r.2.2.2.2.1, r.2.2.2.2.2.1, trivial⟩, hl, hf⟩
           intro j s hq
           obtain ⟨y53, rfl⟩ : ∃ x, x = o54 := ⟨_, rfl⟩
           try dsimp only at k13 hq
           obtain ⟨rfl, r, hl, hf⟩ := hq
           refine Ra hl hf ?_
           rintro g63 s r hl hf
           obtain rfl := oK k13
           exact ⟨rfl, r, hl, hf⟩
          obtain rfl := oK k11
          exact ⟨by decide, ⟨rfl, ⟨r.1, r.2.1, r.2.2.1, r.2.2.2.1, r.2.2.2.2.1, r.2.2.2.2.2.1, trivial⟩, hl, hf⟩⟩
         intro j s hq
         obtain ⟨y47, y48⟩ := o49
         try dsimp only at k10 hq
         obtain ⟨rfl, r, hl, hf⟩ := hq
         refine Ra hl hf ?_
         rintro g64 s r hl hf
         obtain rfl := oK k10
         exact ⟨rfl, r, hl, hf⟩
        obtain rfl := oK k9
        exact ⟨by decide, ⟨rfl, ⟨r.1, r.2.1, r.2.2.1, r.2.2.2.1, r.2.2.2.2.1, r.2.2.2.2.2.1, trivial⟩, hl, hf⟩⟩
       intro j s hq
       obtain ⟨y38, y39⟩ := o40
       try dsimp only at k8 hq
       obtain ⟨rfl, r, hl, hf⟩ := hq
       refine Ra hl hf ?_
       rintro g65 s r hl hf
       obtain rfl := oK k8
       exact ⟨rfl, r, hl, hf⟩
      obtain rfl := oK k7
      exact ⟨by decide, ⟨rfl, ⟨r.1, r.2.1, r.2.2.1, r.2.2.2.1, r.2.2.2.2.1, r.2.2.2.2.2.1, trivial⟩, hl, hf⟩⟩
     intro j s hq
     obtain ⟨y29, y30⟩ := o31
     try dsimp only at k6 hq
     obtain ⟨rfl, r, hl, hf⟩ := hq
     refine Ra hl hf ?_
     rintro g66 s r hl hf
     obtain rfl := oK k6
     exact ⟨rfl, r, hl, hf⟩
    obtain rfl := oK k5
    exact ⟨by decide, ⟨rfl, ⟨r.1, r.2.1, r.2.2.1, r.2.2.2.1, r.2.2.2.2.1, r.2.2.2.2.2.1, trivial⟩, hl, hf⟩⟩
   intro j s hq
   obtain ⟨y20, y21⟩ := o22
   try dsimp only at k4 hq
   obtain ⟨rfl, r, hl, hf⟩ := hq
   refine Ra hl hf ?_
   rintro g67 s r hl hf
   obtain rfl := oK k4
   exact ⟨rfl, r, hl, hf⟩
  obtain rfl := oK k3
  exact ⟨by decide, ⟨rfl, ⟨r.2.2.1, r.2.2.2.1, r.2.2.2.2.1, r.2.2.2.2.2.1, trivial⟩, hl, hf⟩⟩
 intro j s hq
 obtain ⟨y11, y12⟩ := o13
 try dsimp only at k2 hq
 obtain ⟨rfl, r, hl, hf⟩ := hq
 refine Ra hl hf ?_
 rintro g68 s r hl hf
 cases oK k2
 exact ⟨Or.inr rfl, hl, AH (JI r.1)⟩
def QY := fun a0 a1 a2 => Cq.mk (@YS a0 a1 a2)
theorem eQ {a0 : VoiceBook} {a1 : Int} {r : Bool} (k0 : Jr a0 a1 = some r) : Fin zL 86 [Enc.enc a0, .int a1] (.bool r) := by
 unfold Jr at k0; replace k0 := kq k0
 refine fnN O9 U4 ?_
 rintro low s r hl hf
 have q16 := @QY
 refine Ra hl hf ?_
 rintro g1 s r hl hf
 refine Ra hl hf ?_
 rintro g2 s r hl hf
 refine blk ?_
 obtain ⟨o5, l6, k1⟩ := bnk k0
 refine AY (f := GN a0 a1) (E := fun (x : Int) s => BG [I_ 1 a1, C_ 2 g1 a0, I_ 5 x] s ∧ s.low = low ∧ NoB O9 s) (Q := fun (o : ((Bool) ⊕ (Unit))) j s => match o with | .inl w4 => j = .ret ∧ FnJ U4.1 low (.d (.bool w4)) .ret s | .inr _ => j = .exit 0 ∧ BG [C_ 2 g1 a0] s ∧ s.low = low ∧ NoB O9 s) l6 ?_ ⟨r, hl, hf⟩ ?_
 ·rintro x3 s out ⟨r, hl, hf⟩ k2
  unfold GN at k2
  refine Ra hl hf ?_
  rintro g7 s r hl hf
  refine Bn r.2.2.2.1 k2 (fun c8 k2 => ?_) fun c8 k2 => ?_
  ·refine blk ?_
   obtain ⟨v9, h10, k3⟩ := bnk k2
   refine Ra hl hf ?_
   rintro g11 s r hl hf
   refine Bn r.2.2.2.1 k3 (fun c12 k3 => ?_) fun c12 k3 => ?_
   ·refine Ra hl hf ?_
    rintro g13 s r hl hf
    obtain rfl := oK k3
    exact ⟨by decide, ⟨rfl, ⟨Or.inr rfl, hl, AH (AE r.1)⟩⟩⟩
   refine Ra hl hf ?_
   rintro g14 s r hl hf
   obtain rfl := oK k3
   exact ⟨rfl, r, hl, hf⟩
  obtain rfl := oK k2
  exact ⟨by decide, ⟨rfl, ⟨r.2.1, trivial⟩, hl, hf⟩⟩
 intro j s hq
 rcases o5 with w4 | _
 ·try dsimp only at k1 hq
  obtain ⟨rfl, hq⟩ := hq
  cases oK k1
  exact hq
 try dsimp only at k1 hq
 obtain ⟨rfl, r, hl, hf⟩ := hq
 refine Ra hl hf ?_
 rintro g15 s r hl hf
 cases oK k1
 exact ⟨Or.inr rfl, hl, AH (AE r.1)⟩
def Uw := fun a0 a1 => Cq.mk (@eQ a0 a1)
end Go.Lf
