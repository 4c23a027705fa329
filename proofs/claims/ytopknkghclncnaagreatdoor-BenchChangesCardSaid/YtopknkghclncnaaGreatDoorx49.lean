/- A part of the proof. -/
import Derived.Test.YtopknkghclncnaaGreatDoorx28
import Derived.Test.YtopknkghclncnaaGreatDoorx30
import Derived.Test.YtopknkghclncnaaGreatDoorx47
import Derived.Test.YtopknkghclncnaaGreatDoorx48
set_option linter.all false
set_option maxHeartbeats 9999999
namespace Go.Lf
open Go
theorem Zq {a0 : VoiceBook} {r : (Bool × Int)} (k0 : KE a0 = some r) : Fin zL 61 [Enc.enc a0] (Enc.enc r) := by
 unfold KE at k0; replace k0 := kq k0
 refine fnN gW ed ?_
 rintro low s r hl hf
 have q11 := @M9
 have q12 := @Uw
 refine Ra hl hf ?_
 rintro g1 s r hl hf
 obtain ⟨v2, h3, k1⟩ := bnk k0
 refine Ra hl hf ?_
 rintro g4 s r hl hf
 refine Ra hl hf ?_
 rintro g5 s r hl hf
 refine JV r.2.2.1 k1 (fun c6 k1 => ?_) fun c6 k1 => ?_
 ·obtain ⟨v7, h8, k2⟩ := bnk k1
  refine Ra hl hf ?_
  rintro g9 s r hl hf
  cases oK k2
  exact ⟨Or.inr rfl, hl, Av (AE r.1) (AE r.2.1)⟩
 refine Ra hl hf ?_
 rintro g10 s r hl hf
 cases oK k1
 exact ⟨Or.inr rfl, hl, Av (AE r.1) (AE r.2.1)⟩
def eH := fun a0 => Cq.mk (@Zq a0)
theorem Zn {a0 : BenchBook} {a1 : Bool} {r : Int} (k0 : DJ a0 a1 = some r) : Fin zL 30 [Enc.enc a0, .bool a1] (.int r) := by
 unfold DJ at k0; replace k0 := kq k0
 refine fnN dl fZ ?_
 rintro low s r hl hf
 have q18 := @eH
 have q19 := @TZ
 refine Ra hl hf ?_
 rintro g1 s r hl hf
 obtain ⟨v2, h3, k1⟩ := bnk k0
 refine Ra hl hf ?_
 rintro g4 s r hl hf
 refine Ra hl hf ?_
 rintro g5 s r hl hf
 refine JV r.2.2.2.1 k1 (fun c6 k1 => ?_) fun c6 k1 => ?_
 ·refine Ra hl hf ?_
  rintro g7 s r hl hf
  refine JV r.2.1 k1 (fun c8 k1 => ?_) fun c8 k1 => ?_
  ·obtain ⟨v9, h10, k2⟩ := bnk k1
   refine Ra hl hf ?_
   rintro g11 s r hl hf
   refine Ra hl hf ?_
   rintro g12 s r hl hf
   refine JV r.1 k2 (fun c13 k2 => ?_) fun c13 k2 => ?_
   ·refine Ra hl hf ?_
    rintro g14 s r hl hf
    cases oK k2
    exact ⟨Or.inr rfl, hl, AH (AE r.1)⟩
   refine Ra hl hf ?_
   rintro g15 s r hl hf
   cases oK k2
   exact ⟨Or.inr rfl, hl, AH (AE r.1)⟩
  refine Ra hl hf ?_
  rintro g16 s r hl hf
  cases oK k1
  exact ⟨Or.inr rfl, hl, AH (AE r.1)⟩
 refine Ra hl hf ?_
 rintro g17 s r hl hf
 cases oK k1
 exact ⟨Or.inr rfl, hl, AH (AE r.1)⟩
def EC := fun a0 a1 => Cq.mk (@Zn a0 a1)
theorem bL {a0 : VoiceBook} {a1 : Bool} {r : Int} (k0 : EY a0 a1 = some r) : Fin zL 104 [Enc.enc a0, .bool a1] (.int r) := by
 unfold EY at k0; replace k0 := kq k0
 refine fnN fA fF ?_
 rintro low s r hl hf
 have q17 := @M9
 have q18 := @Uw
 refine Ra hl hf ?_
 rintro g1 s r hl hf
 obtain ⟨v2, h3, k1⟩ := bnk k0
 refine Ra hl hf ?_
 rintro g4 s r hl hf
 refine Ra hl hf ?_
 rintro g5 s r hl hf
 refine JV r.2.2.2.1 k1 (fun c6 k1 => ?_) fun c6 k1 => ?_
 ·refine Ra hl hf ?_
  rintro g7 s r hl hf
  refine JV r.2.1 k1 (fun c8 k1 => ?_) fun c8 k1 => ?_
  ·obtain ⟨v9, h10, k2⟩ := bnk k1
   refine Ra hl hf ?_
   rintro g11 s r hl hf
   refine JV r.1 k2 (fun c12 k2 => ?_) fun c12 k2 => ?_
   ·refine Ra hl hf ?_
    rintro g13 s r hl hf
    cases oK k2
    exact ⟨Or.inr rfl, hl, AH (AE r.1)⟩
   refine Ra hl hf ?_
   rintro g14 s r hl hf
   cases oK k2
   exact ⟨Or.inr rfl, hl, AH (AE r.1)⟩
  refine Ra hl hf ?_
  rintro g15 s r hl hf
  cases oK k1
  exact ⟨Or.inr rfl, hl, AH (AE r.1)⟩
 refine Ra hl hf ?_
 rintro g16 s r hl hf
 cases oK k1
 exact ⟨Or.inr rfl, hl, AH (AE r.1)⟩
def gg := fun a0 a1 => Cq.mk (@bL a0 a1)
theorem bK {a0 : VoiceBook} {a1 : Int} {a2 : Int} {a3 : Int} {r : Int} (k0 : KN a0 a1 a2 a3 = some r) : Fin zL 105 [Enc.enc a0, .int a1, .int a2, .int a3] (.int r) := by
 unfold KN at k0; replace k0 := kq k0
 refine fnN NT du ?_
 rintro low s r hl hf
 have q28 := @Ww
 have q29 := @QY
 refine Ra hl hf ?_
 rintro g1 s r hl hf
 obtain ⟨v2, h3, k1⟩ := bnk k0
 refine Ra hl hf ?_
 rintro g4 s r hl hf
 refine Ra hl hf ?_
 rintro g5 s r hl hf
 refine blk ?_
 obtain ⟨o9, l10, k2⟩ := bnk k1
 refine AY (f := FU a2 a3 v2) (E := fun (x : Int × Int) s => BG [I_ 2 a2, I_ 3 a3, E_ 9 v2, I_ 10 x.1, I_ 11 x.2] s ∧ s.low = low ∧ NoB NT s) (Q := fun (y8 : Int) j s => j = .exit 0 ∧ BG [E_ 9 v2, I_ 10 y8] s ∧ s.low = low ∧ NoB NT s) l10 ?_ ⟨r, hl, hf⟩ ?_
 ·rintro ⟨x6, x7⟩ s out ⟨r, hl, hf⟩ k3
  dsimp only at r
  simp only [FU] at k3
  refine Ra hl hf ?_
  rintro g11 s r hl hf
  refine Bn r.2.2.2.2.2.1 k3 (fun c12 k3 => ?_) fun c12 k3 => ?_
  ·refine blk ?_
   obtain ⟨v13, h14, k4⟩ := bnk k3
   refine Ra hl hf ?_
   rintro g15 s r hl hf
   refine Bn r.2.2.2.2.2.1 k4 (fun c16 k4 => ?_) fun c16 k4 => ?_
   ·refine Ra hl hf ?_
    rintro g17 s r hl hf
    refine Ra hl hf ?_
    rintro g18 s r hl hf
    obtain rfl := oK k4
    exact ⟨rfl, r, hl, hf⟩
   refine Ra hl hf ?_
   rintro g19 s r hl hf
   obtain rfl := oK k4
   exact ⟨rfl, r, hl, hf⟩
  obtain rfl := oK k3
  exact ⟨by decide, ⟨rfl, ⟨r.2.2.1, r.2.2.2.1, trivial⟩, hl, hf⟩⟩
 intro j s hq
 obtain ⟨y8, rfl⟩ : ∃ x, x = o9 := ⟨_, rfl⟩
 try dsimp only at k2 hq
 obtain ⟨rfl, r, hl, hf⟩ := hq
 refine Ra hl hf ?_
 rintro g20 s r hl hf
 refine blk <| Ra hl hf ?_
 rintro g21 s r hl hf
 refine Bn r.2.2.1 k2 (fun c22 k2 => ?_) fun c22 k2 => ?_
 ·refine Ra hl hf ?_
  rintro g23 s r hl hf
  cases oK k2
  exact ⟨Or.inr rfl, hl, AH (AE r.1)⟩
 refine Ra hl hf ?_
 rintro g24 s r hl hf
 refine Bn r.1 k2 (fun c25 k2 => ?_) fun c25 k2 => ?_
 ·refine Ra hl hf ?_
  rintro g26 s r hl hf
  cases oK k2
  exact ⟨Or.inr rfl, hl, AH (AE r.1)⟩
 refine Ra hl hf ?_
 rintro g27 s r hl hf
 cases oK k2
 exact ⟨Or.inr rfl, hl, AH (AE r.1)⟩
def dr := fun a0 a1 a2 a3 => Cq.mk (@bK a0 a1 a2 a3)
theorem ah {a0 : VoiceBook} {a1 : Int} {a2 : Int} {a3 : Int} {r : (Int × Int)} (k0 : KF a0 a1 a2 a3 = some r) : Fin zL 87 [Enc.enc a0, .int a1, .int a2, .int a3] (Enc.enc r) := by
 unfold KF at k0; replace k0 := kq k0
 refine fnN eZ dy ?_
 rintro low s r hl hf
 have q19 := @gg
 have q20 := @S3
 have q21 := @QN
 have q22 := @QM
 have q23 := @dr
 refine Ra hl hf ?_
 rintro g1 s r hl hf
 obtain ⟨o10, q, k1⟩ := bnk k0
 refine Rq (fun g12 => [I_ 10 o10]) hl hf q ?_
 rintro g12 s r hl hf
 refine Ra hl hf ?_
 rintro g13 s r hl hf
 refine JV r.2.2.2.2.2.1 k1 (fun c14 k1 => ?_) fun c14 k1 => ?_
 ·obtain ⟨v15, h16, k2⟩ := bnk k1
  refine Ra hl hf ?_
  rintro g17 s r hl hf
  cases oK k2
  exact ⟨Or.inr rfl, hl, Av (AE r.1) (AE r.2.1)⟩
 refine Ra hl hf ?_
 rintro g18 s r hl hf
 cases oK k1
 exact ⟨Or.inr rfl, hl, Av (AE r.1) (AE r.2.1)⟩
def eK := fun a0 a1 a2 a3 => Cq.mk (@ah a0 a1 a2 a3)
theorem jG {a0 : BenchBook} {a1 : Int} {a2 : Int} {a3 : Int} {r : Bool} (k0 : Ou a0 a1 a2 a3 = some r) : Fin zL 63 [Enc.enc a0, .int a1, .int a2, .int a3] (.bool r) := by
 unfold Ou at k0; replace k0 := kq k0
 refine fnN RN ZD ?_
 rintro low s r hl hf
 have q24 := @eK
 refine Ra hl hf ?_
 rintro g1 s r hl hf
 obtain ⟨v2, h3, k1⟩ := bnk k0
 refine Ra hl hf ?_
 rintro g4 s r hl hf
 obtain ⟨v5, h6, k2⟩ := bnk k1
 refine Ra hl hf ?_
 rintro g7 s r hl hf
 refine blk ?_
 obtain ⟨o10, l11, k3⟩ := bnk k2
 refine AY (f := HM a0 a2 a3 v2) (E := fun (x : Int) s => BG [I_ 2 a2, I_ 3 a3, C_ 4 g1 a0, C_ 9 (g4 + 1 + 1 + 1 + 1 + 1) v2, I_ 10 x] s ∧ s.low = low ∧ NoB RN s) (Q := fun (o : ((Bool) ⊕ (Unit))) j s => match o with | .inl w9 => j = .ret ∧ FnJ ZD.1 low (.d (.bool w9)) .ret s | .inr _ => j = .exit 0 ∧ BG [C_ 4 g1 a0, C_ 9 (g4 + 1 + 1 + 1 + 1 + 1) v2] s ∧ s.low = low ∧ NoB RN s) l11 ?_ ⟨r, hl, hf⟩ ?_
 ·rintro x8 s out ⟨r, hl, hf⟩ k4
  unfold HM at k4
  obtain ⟨v12, h13, k5⟩ := bnk k4
  try clear h6
  refine Ra hl hf ?_
  rintro g14 s r hl hf
  refine Bn r.2.2.2.2.2.1 k5 (fun c15 k5 => ?_) fun c15 k5 => ?_
  ·refine blk ?_
   obtain ⟨v16, h17, k6⟩ := bnk k5
   refine Ra hl hf ?_
   rintro g18 s r hl hf
   refine Ra hl hf ?_
   rintro g19 s r hl hf
   refine JV r.2.2.2.2.2.1 k6 (fun c20 k6 => ?_) fun c20 k6 => ?_
   ·refine Ra hl hf ?_
    rintro g21 s r hl hf
    obtain rfl := oK k6
    exact ⟨rfl, r, hl, hf⟩
   refine Ra hl hf ?_
   rintro g22 s r hl hf
   obtain rfl := oK k6
   exact ⟨by decide, ⟨rfl, ⟨Or.inr rfl, hl, AH (AE r.1)⟩⟩⟩
  obtain rfl := oK k5
  exact ⟨by decide, ⟨rfl, ⟨r.2.2.1, r.2.2.2.1, trivial⟩, hl, hf⟩⟩
 intro j s hq
 rcases o10 with w9 | _
 ·try dsimp only at k3 hq
  obtain ⟨rfl, hq⟩ := hq
  cases oK k3
  exact hq
 try dsimp only at k3 hq
 obtain ⟨rfl, r, hl, hf⟩ := hq
 refine Ra hl hf ?_
 rintro g23 s r hl hf
 cases oK k3
 exact ⟨Or.inr rfl, hl, AH (AE r.1)⟩
def nq := fun a0 a1 a2 a3 => Cq.mk (@jG a0 a1 a2 a3)
theorem dz {a0 : BenchBook} {a1 : Int} {r : (Sl (Sl (Sl Int)))} (k0 : C2 a0 a1 = some r) : Fin zL 32 [Enc.enc a0, .int a1] (Enc.enc r) := by
 unfold C2 at k0; replace k0 := kq k0
 refine fnN GE jF ?_
 rintro low s r hl hf
 have q61 := @Q4
 have q62 := @nq
 refine Ra hl hf ?_
 rintro g1 s r hl hf
 refine Ra hl hf ?_
 rintro g2 s r hl hf
 refine Ra hl hf ?_
 rintro g3 s r hl hf
 refine blk ?_
 obtain ⟨o7, l8, k1⟩ := bnk k0
 refine AY (f := Ge a0 a1) (E := fun (x : (Sl (Sl (Sl Int))) × Int) s => BG [I_ 1 a1, C_ 2 g1 a0, (5, .v (Sl.lv x.1)), I_ 6 x.2] s ∧ s.low = low ∧ NoB GE s) (Q := fun (y6 : (Sl (Sl (Sl Int)))) j s => j = .exit 0 ∧ BG [C_ 2 g1 a0, (5, .v (Sl.lv y6))] s ∧ s.low = low ∧ NoB GE s) l8 ?_ ⟨r, hl, hf⟩ ?_
 ·rintro ⟨x4, x5⟩ s out ⟨r, hl, hf⟩ k2
  dsimp only at r
  simp only [Ge] at k2
  refine Ra hl hf ?_
  rintro g9 s r hl hf
  refine Bn r.2.2.2.2.1 k2 (fun c10 k2 => ?_) fun c10 k2 => ?_
  ·refine blk <| Ra hl hf ?_
   rintro g11 s r hl hf
   refine Ra hl hf ?_
   rintro g12 s r hl hf
   refine blk ?_
   obtain ⟨o20, l21, k3⟩ := bnk k2
   refine AY (f := GF a0 a1) (E := fun (x : (Sl (Sl (Sl Int))) × Int × (Sl (Sl Int)) × Int) s => BG [I_ 1 a1, C_ 2 g1 a0, (5, .v (Sl.lv x.1)), I_ 6 x.2.1, (7, .v (Sl.lv x.2.2.1)), I_ 8 x.2.2.2] s ∧ s.low = low ∧ NoB GE s) (Q := fun (o : (Sl (Sl (Sl Int))) × Int × (Sl (Sl Int))) j s => match o with | (y17, y18, y19) => j = .exit 2 ∧ BG [I_ 1 a1, C_ 2 g1 a0, (5, .v (Sl.lv y17)), I_ 6 y18, (7, .v (Sl.lv y19))] s ∧ s.low = low ∧ NoB GE s) l21 ?_ ⟨r, hl, hf⟩ ?_
   ·rintro ⟨x13, x14, x15, x16⟩ s out ⟨r, hl, hf⟩ k4
    dsimp only at r
    simp only [GF] at k4
    obtain ⟨v22, h23, k5⟩ := bnk k4
    refine Ra hl hf ?_
    rintro g24 s r hl hf
    refine Bn r.2.2.2.2.2.2.1 k5 (fun c25 k5 => ?_) fun c25 k5 => ?_
    ·refine blk <| Ra hl hf ?_
     rintro g26 s r hl hf
     refine Ra hl hf ?_
     rintro g27 s r hl hf
     refine blk ?_
     obtain ⟨o31, l32, k6⟩ := bnk k5
     refine AY (f := GZ a0 a1 x14 x16) (E := fun (x : (Sl Int) × Int) s => BG [I_ 1 a1, C_ 2 g1 a0, (5, .v (Sl.lv x13)), I_ 6 x14, (7, .v (Sl.lv x15)), I_ 8 x16, (9, .v (Sl.lv x.1)), I_ 10 x.2] s ∧ s.low = low ∧ NoB GE s) (Q := fun (y30 : (Sl Int)) j s => j = .exit 4 ∧ BG [I_ 1 a1, C_ 2 g1 a0, (5, .v (Sl.lv x13)), I_ 6 x14, (7, .v (Sl.lv x15)), I_ 8 x16, (9, .v (Sl.lv y30))] s ∧ s.low = low ∧ NoB GE s) l32 ?_ ⟨r, hl, hf⟩ ?_
     ·rintro ⟨x28, x29⟩ s out ⟨r, hl, hf⟩ k7
      dsimp only at r
      simp only [GZ] at k7
      refine Ra hl hf ?_
      rintro g33 s r hl hf
      refine Bn r.2.2.2.2.2.2.2.2.1 k7 (fun c34 k7 => ?_) fun c34 k7 => ?_
      ·refine blk ?_
       obtain ⟨o40, q, k8⟩ := bnk k7
       refine Rq (fun g42 => [B_ 48 o40]) hl hf q ?_
       rintro g42 s r hl hf
       refine Bn r.2.2.2.2.2.2.2.2.1 k8 (fun c43 k8 => ?_) fun c43 k8 => ?_
       ·obtain ⟨v44, h45, k9⟩ := bnk k8
        have q47 := DZ (sz := 1) (x := x28) (y := (Sl.cold [x29] : Sl Int)) rfl rfl h45
        refine Ra hl hf ?_
        rintro g46 s r hl hf
        refine Ra hl hf ?_
        rintro g48 s r hl hf
        obtain rfl := oK k9
        exact ⟨rfl, r, hl, hf⟩
       refine Ra hl hf ?_
       rintro g49 s r hl hf
       obtain rfl := oK k8
       exact ⟨rfl, r, hl, hf⟩
      obtain rfl := oK k7
      exact ⟨by decide, ⟨rfl, ⟨r.1, r.2.1, r.2.2.1, r.2.2.2.1, r.2.2.2.2.1, r.2.2.2.2.2.1, r.2.2.2.2.2.2.1, trivial⟩, hl, hf⟩⟩
     intro j s hq
     obtain ⟨y30, rfl⟩ : ∃ x, x = o31 := ⟨_, rfl⟩
     try dsimp only at k6 hq
     obtain ⟨rfl, r, hl, hf⟩ := hq
     obtain ⟨v50, h51, k10⟩ := bnk k6
     have q53 := DZ (sz := 1) (x := x15) (y := (Sl.cold [y30] : Sl (Sl Int))) rfl rfl h51
     refine Ra hl hf ?_
     rintro g52 s r hl hf
     refine Ra hl hf ?_
     rintro g54 s r hl hf
     obtain rfl := oK k10
     exact ⟨rfl, r, hl, hf⟩
    obtain rfl := oK k5
    exact ⟨by decide, ⟨rfl, ⟨r.1, r.2.1, r.2.2.1, r.2.2.2.1, r.2.2.2.2.1, trivial⟩, hl, hf⟩⟩
   intro j s hq
   obtain ⟨y17, y18, y19⟩ := o20
   try dsimp only at k3 hq
   obtain ⟨rfl, r, hl, hf⟩ := hq
   obtain ⟨v55, h56, k11⟩ := bnk k3
   have q58 := DZ (sz := 1) (x := y17) (y := (Sl.cold [y19] : Sl (Sl (Sl Int)))) rfl rfl h56
   refine Ra hl hf ?_
   rintro g57 s r hl hf
   refine Ra hl hf ?_
   rintro g59 s r hl hf
   obtain rfl := oK k11
   exact ⟨rfl, r, hl, hf⟩
  obtain rfl := oK k2
  exact ⟨by decide, ⟨rfl, ⟨r.2.1, r.2.2.1, trivial⟩, hl, hf⟩⟩
 intro j s hq
 obtain ⟨y6, rfl⟩ : ∃ x, x = o7 := ⟨_, rfl⟩
 try dsimp only at k1 hq
 obtain ⟨rfl, r, hl, hf⟩ := hq
 refine Ra hl hf ?_
 rintro g60 s r hl hf
 cases oK k1
 exact ⟨Or.inr rfl, hl, AH (JI r.1)⟩
def Eo := fun a0 a1 => Cq.mk (@dz a0 a1)
theorem iD {a0 : BenchBook} {a1 : Int} {a2 : Int} {r : ((Sl Int) × Int)} (k0 : Of a0 a1 a2 = some r) : Fin zL 7 [Enc.enc a0, .int a1, .int a2] (Enc.enc r) := by
 unfold Of at k0; replace k0 := kq k0
 refine fnN mT my ?_
 rintro low s r hl hf
 have q17 := @Eo
 have q18 := @EC
 have q19 := @Qd
 refine Ra hl hf ?_
 rintro g1 s r hl hf
 obtain ⟨v2, h3, k1⟩ := bnk k0
 obtain ⟨v4, h5, k2⟩ := bnk k1
 refine Ra hl hf ?_
 rintro g6 s r hl hf
 refine Ra hl hf ?_
 rintro g7 s r hl hf
 refine JV r.2.2.2.2.1 k2 (fun c8 k2 => ?_) fun c8 k2 => ?_
 ·obtain ⟨v9, h10, k3⟩ := bnk k2
  obtain ⟨v11, h12, k4⟩ := bnk k3
  obtain ⟨v13, h14, k5⟩ := bnk k4
  refine Ra hl hf ?_
  rintro g15 s r hl hf
  cases oK k5
  exact ⟨Or.inr rfl, hl, Av (AE r.1) (AE r.2.1)⟩
 refine Ra hl hf ?_
 rintro g16 s r hl hf
 cases oK k2
 exact ⟨Or.inr rfl, hl, Av (AE r.1) (AE r.2.1)⟩
def mb := fun a0 a1 a2 => Cq.mk (@iD a0 a1 a2)
theorem bO {a0 : (Sl Int)} {a1 : (Sl Int)} {r : Bool} (k0 : BW a0 a1 = some r) : Fin zL 8 [Enc.enc a0, Enc.enc a1] (.bool r) := by
 unfold BW at k0; replace k0 := kq k0
 refine fnN NJ fO ?_
 rintro low s r hl hf
 refine Ra hl hf ?_
 rintro g1 s r hl hf
 refine Ra hl hf ?_
 rintro g2 s r hl hf
 refine Ra hl hf ?_
 rintro g3 s r hl hf
 refine blk ?_
 obtain ⟨o7, l8, k1⟩ := bnk k0
 refine AY (f := B2 a0 a1) (E := fun (x : Bool × Int) s => BG [E_ 0 a0, E_ 1 a1, B_ 5 x.1, I_ 6 x.2] s ∧ s.low = low ∧ NoB NJ s) (Q := fun (y6 : Bool) j s => j = .exit 0 ∧ BG [B_ 5 y6] s ∧ s.low = low ∧ NoB NJ s) l8 ?_ ⟨r, hl, hf⟩ ?_
 ·rintro ⟨x4, x5⟩ s out ⟨r, hl, hf⟩ k2
  dsimp only at r
  simp only [B2] at k2
  refine Rx (fun g11 => [B_ 18 (x4 && (decide (x5 < a0.len)))]) hl hf ?_
  rintro g11 s r hl hf
  refine Bn r.2.2.2.2.1 k2 (fun c12 k2 => ?_) fun c12 k2 => ?_
  ·refine blk ?_
   obtain ⟨v13, h14, k3⟩ := bnk k2
   obtain ⟨v15, h16, k4⟩ := bnk k3
   refine Ra hl hf ?_
   rintro g17 s r hl hf
   refine Ra hl hf ?_
   rintro g18 s r hl hf
   obtain rfl := oK k4
   exact ⟨rfl, r, hl, hf⟩
  obtain rfl := oK k2
  exact ⟨by decide, ⟨rfl, ⟨r.2.2.1, trivial⟩, hl, hf⟩⟩
 intro j s hq
 obtain ⟨y6, rfl⟩ : ∃ x, x = o7 := ⟨_, rfl⟩
 try dsimp only at k1 hq
 obtain ⟨rfl, r, hl, hf⟩ := hq
 refine Ra hl hf ?_
 rintro g19 s r hl hf
 cases oK k1
 exact ⟨Or.inr rfl, hl, AH (AE r.1)⟩
def Jk := fun a0 a1 => Cq.mk (@bO a0 a1)
theorem RH {a0 : AC} {a1 : (Sl Int)} {a2 : Int} {r : (Sl AK)} (k0 : Bo a0 a1 a2 = some r) : Fin zL 38 [Enc.enc a0, Enc.enc a1, .int a2] (Enc.enc r) := by
 unfold Bo at k0; replace k0 := kq k0
 refine fnN EJ SR ?_
 rintro low s r hl hf
 refine Ra hl hf ?_
 rintro g1 s r hl hf
 refine Ra hl hf ?_
 rintro g2 s r hl hf
 refine Ra hl hf ?_
 rintro g3 s r hl hf
 refine blk ?_
 obtain ⟨o7, l8, k1⟩ := bnk k0
 refine AY (f := CV a0 a1 a2) (E := fun (x : (Sl AK) × Int) s => BG [I_ 2 a2, C_ 3 g1 a0, (7, .v (Sl.lv x.1)), E_ 12 a1, I_ 13 a1.len, I_ 14 x.2] s ∧ s.low = low ∧ NoB EJ s) (Q := fun (y6 : (Sl AK)) j s => j = .exit 0 ∧ BG [C_ 3 g1 a0, (7, .v (Sl.lv y6))] s ∧ s.low = low ∧ NoB EJ s) l8 ?_ ⟨r, hl, hf⟩ ?_
 ·rintro ⟨x4, x5⟩ s out ⟨r, hl, hf⟩ k2
  dsimp only at r
  simp only [CV] at k2
  refine Ra hl hf ?_
  rintro g9 s r hl hf
  refine Bn r.2.2.2.2.2.2.1 k2 (fun c10 k2 => ?_) fun c10 k2 => ?_
  ·refine blk ?_
   obtain ⟨v11, h12, k3⟩ := bnk k2
   refine Ra hl hf ?_
   rintro g13 s r hl hf
   obtain ⟨v14, h15, k4⟩ := bnk k3
   obtain ⟨v16, h17, k5⟩ := bnk k4
   have q19 := @dk
   have q20 := vc (sz := 3) rfl h17
   refine Ra hl hf ?_
   rintro g18 s r hl hf
   refine blk ?_
   obtain ⟨o24, l25, k6⟩ := bnk k5
   refine AY (f := CU v11 v16) (E := fun (x : (Sl AK) × Int) s => BG [I_ 2 a2, C_ 3 g1 a0, (7, .v (Sl.lv x.1)), I_ 9 v11, E_ 12 a1, I_ 13 a1.len, I_ 14 x5, E_ 35 v16, I_ 36 v16.len, I_ 37 x.2] s ∧ s.low = low ∧ NoB EJ s) (Q := fun (y23 : (Sl AK)) j s => j = .exit 2 ∧ BG [I_ 2 a2, C_ 3 g1 a0, (7, .v (Sl.lv y23)), E_ 12 a1, I_ 13 a1.len, I_ 14 x5] s ∧ s.low = low ∧ NoB EJ s) l25 ?_ ⟨r, hl, hf⟩ ?_
   ·rintro ⟨x21, x22⟩ s out ⟨r, hl, hf⟩ k7
    dsimp only at r
    simp only [CU] at k7
    refine Ra hl hf ?_
    rintro g26 s r hl hf
    refine Bn r.2.2.2.2.2.2.2.2.2.2.1 k7 (fun c27 k7 => ?_) fun c27 k7 => ?_
    ·refine blk ?_
     obtain ⟨v28, h29, k8⟩ := bnk k7
     refine Ra hl hf ?_
     rintro g30 s r hl hf
     obtain ⟨v31, h32, k9⟩ := bnk k8
     have q34 := @Ff
     have q35 := DZ (sz := 4) (x := x21) (y := (Sl.cold [(AK.mk (AL.mk v11 x22) v28.Many 0)] : Sl AK)) rfl rfl h32
     refine Ra hl hf ?_
     rintro g33 s r hl hf
     refine Ra hl hf ?_
     rintro g36 s r hl hf
     obtain rfl := oK k9
     exact ⟨rfl, r, hl, hf⟩
    obtain rfl := oK k7
    exact ⟨by decide, ⟨rfl, ⟨r.1, r.2.1, r.2.2.1, r.2.2.2.2.1, r.2.2.2.2.2.1, r.2.2.2.2.2.2.1, trivial⟩, hl, hf⟩⟩
   intro j s hq
   obtain ⟨y23, rfl⟩ : ∃ x, x = o24 := ⟨_, rfl⟩
   try dsimp only at k6 hq
   obtain ⟨rfl, r, hl, hf⟩ := hq
   refine Ra hl hf ?_
   rintro g37 s r hl hf
   obtain rfl := oK k6
   exact ⟨rfl, r, hl, hf⟩
  obtain rfl := oK k2
  exact ⟨by decide, ⟨rfl, ⟨r.2.1, r.2.2.1, trivial⟩, hl, hf⟩⟩
 intro j s hq
 obtain ⟨y6, rfl⟩ : ∃ x, x = o7 := ⟨_, rfl⟩
 try dsimp only at k1 hq
 obtain ⟨rfl, r, hl, hf⟩ := hq
 refine Ra hl hf ?_
 rintro g38 s r hl hf
 cases oK k1
 exact ⟨Or.inr rfl, hl, AH (JI r.1)⟩
def EN := fun a0 a1 a2 => Cq.mk (@RH a0 a1 a2)
theorem Ia {low : List Fr} (a0 : AC) (a1 : (Sl AK)) : LY zL 41 [.d (Enc.enc a0), .d (Enc.enc a1)] low (.d (.fn 69 [] [.fptr (Enc.cells a0) 0, .fptr [Enc.enc a1] 0])) := by
 refine li V1 Vp ?_
 rintro s r hl hf
 refine Ra hl hf ?_
 rintro g1 s r hl hf
 refine Ra hl hf ?_
 rintro g2 s r hl hf
 exact ⟨Or.inr rfl, hl, mg (by simp only [Xk, r, FT, Hv, M4, hl]; simp only [xx, AAZ, sn, tB, Tz, Xq, eY, eE, Yv, Ub, Xl, OS, OR, O2, Re, ki, Lt, UF, Ob, Option.map_some, Option.map_none, AB.lc, AC.lc, U3 (show Env.get 2 s.env = _ from r.1), U3 (show Env.get 3 s.env = _ from r.2.1)])⟩
theorem Jj : Fin zL 73 [] (Enc.enc (CC)) := by
 refine fnN iK kG ?_
 rintro low s - hl hf
 have q2 := @Yu
 refine Ra hl hf ?_
 rintro g1 s r hl hf
 have q4 := @Yu
 refine Ra hl hf ?_
 rintro g3 s r hl hf
 refine Ra hl hf ?_
 rintro g5 s r hl hf
 exact ⟨Or.inr rfl, hl, AH (Cm r.1 rfl)⟩
def kt := Jj.call
theorem Je {low : List Fr} (a0 : AA) (a1x : AK) (a2x : Int) {pja1 : Nat} {pta1 : Nat} {pga1 : Nat} {pja2 : Nat} {pta2 : Nat} {pga2 : Nat} (ba1 : I8 low pja1 pta1 = some (.box pga1 ((Enc.cells a1x).map LV.d))) (ba2 : I8 low pja2 pta2 = some (.box pga2 [.d (.int a2x)])) : LY zL 72 [.d (Enc.enc a0), .ptr pja1 pta1 pga1 0, .ptr pja2 pta2 pga2 0] low (.d (.bool (Cc a0 a1x a2x))) := by
 refine li LX K8 ?_
 rintro s r hl hf
 refine Ra hl hf ?_
 rintro g1 s r hl hf
 have q5 := E3 ba1
 have q6 := E3 ba2
 refine Rx (fun g4 => [B_ 4 ((decide (a0.Piece = a1x.at_.piece)) && (decide (a0.Boy = a2x)))]) hl hf ?_
 rintro g4 s r hl hf
 exact ⟨Or.inr rfl, hl, AH (AE r.1)⟩
theorem O6 {low : List Fr} {a0 : (Sl AA)} {a1c0x : AK} {a1c1x : Int} {pja1c0 : Nat} {pta1c0 : Nat} {pga1c0 : Nat} {pja1c1 : Nat} {pta1c1 : Nat} {pga1c1 : Nat} (ba1c0 : I8 low pja1c0 pta1c0 = some (.box pga1c0 ((Enc.cells a1c0x).map LV.d))) (ba1c1 : I8 low pja1c1 pta1c1 = some (.box pga1c1 [.d (.int a1c1x)])) {r : Int} (k0 : FY a0 a1c0x a1c1x = some r) : LY zL 94 [.d (Enc.enc a0), .fn 72 [] [.ptr pja1c0 pta1c0 pga1c0 0, .ptr pja1c1 pta1c1 pga1c1 0]] low (.d (.int r)) := by
 unfold FY at k0; replace k0 := kq k0
 refine li H7 Kv ?_
 rintro s r hl hf
 refine Ra hl hf ?_
 rintro g1 s r hl hf
 refine Ra hl hf ?_
 rintro g2 s r hl hf
 refine blk ?_
 obtain ⟨o5, l6, k1⟩ := bnk k0
 refine AY (f := BJ a0 a1c0x a1c1x) (E := fun (x : Int) s => BG [E_ 0 a0, (1, .v (.fn 72 [] [.ptr pja1c0 pta1c0 pga1c0 0, .ptr pja1c1 pta1c1 pga1c1 0])), I_ 7 a0.len, I_ 8 x] s ∧ s.low = low ∧ NoB H7 s) (Q := fun (o : ((Int) ⊕ (Unit))) j s => match o with | .inl w4 => j = .ret ∧ FnJ Kv.1 low (.d (.int w4)) .ret s | .inr _ => j = .exit 0 ∧ BG [] s ∧ s.low = low ∧ NoB H7 s) l6 ?_ ⟨r, hl, hf⟩ ?_
 ·rintro x3 s out ⟨r, hl, hf⟩ k2
  unfold BJ at k2
  refine Ra hl hf ?_
  rintro g7 s r hl hf
  refine Bn r.2.2.2.2.1 k2 (fun c8 k2 => ?_) fun c8 k2 => ?_
  ·refine blk <| Ra hl hf ?_
   rintro g9 s r hl hf
   obtain ⟨v10, h11, k3⟩ := bnk k2
   have f12 : ∀ (e : Env) (c : Nat), (om zL).call 72 [.d (Enc.enc v10), .ptr pja1c0 pta1c0 pga1c0 0, .ptr pja1c1 pta1c1 pga1c1 0] (low ++ [⟨e, none⟩]) c = some (.d (.bool ((Cc v10 a1c0x a1c1x))), low ++ [⟨e, none⟩], UT zL 72 [.d (Enc.enc v10), .ptr pja1c0 pta1c0 pga1c0 0, .ptr pja1c1 pta1c1 pga1c1 0] (low ++ [⟨e, none⟩]) c) := fun e c => LY.om (Je v10 a1c0x a1c1x (Hq ba1c0) (Hq ba1c1)) c
   have q14 := @f12
   refine Ra hl hf ?_
   rintro g13 s r hl hf
   refine Bn r.2.2.2.2.2.1 k3 (fun c15 k3 => ?_) fun c15 k3 => ?_
   ·refine Ra hl hf ?_
    rintro g16 s r hl hf
    obtain rfl := oK k3
    exact ⟨by decide, ⟨rfl, ⟨Or.inr rfl, hl, AH (AE r.1)⟩⟩⟩
   refine Ra hl hf ?_
   rintro g17 s r hl hf
   obtain rfl := oK k3
   exact ⟨rfl, r, hl, hf⟩
  obtain rfl := oK k2
  exact ⟨by decide, ⟨rfl, trivial, hl, hf⟩⟩
 intro j s hq
 rcases o5 with w4 | _
 ·try dsimp only at k1 hq
  obtain ⟨rfl, hq⟩ := hq
  cases oK k1
  exact hq
 try dsimp only at k1 hq
 obtain ⟨rfl, -, hl, hf⟩ := hq
 refine Ra hl hf ?_
 rintro g18 s r hl hf
 cases oK k1
 exact ⟨Or.inr rfl, hl, AH (AE r.1)⟩
theorem Ee {low : List Fr} {a0 : (Sl AA)} {a1c0x : AK} {a1c1x : Int} {pja1c0 : Nat} {pta1c0 : Nat} {pga1c0 : Nat} {pja1c1 : Nat} {pta1c1 : Nat} {pga1c1 : Nat} (ba1c0 : I8 low pja1c0 pta1c0 = some (.box pga1c0 ((Enc.cells a1c0x).map LV.d))) (ba1c1 : I8 low pja1c1 pta1c1 = some (.box pga1c1 [.d (.int a1c1x)])) {r : Bool} (k0 : Bz a0 a1c0x a1c1x = some r) : LY zL 71 [.d (Enc.enc a0), .fn 72 [] [.ptr pja1c0 pta1c0 pga1c0 0, .ptr pja1c1 pta1c1 pga1c1 0]] low (.d (.bool r)) := by
 unfold Bz at k0; replace k0 := kq k0
 refine li O1 PN ?_
 rintro s r hl hf
 refine Ra hl hf ?_
 rintro g1 s r hl hf
 obtain ⟨v2, h3, k1⟩ := bnk k0
 have f4 : ∀ (e : Env) (c : Nat), (om zL).call 94 [.d (Enc.enc a0), .fn 72 [] [.ptr pja1c0 pta1c0 pga1c0 0, .ptr pja1c1 pta1c1 pga1c1 0]] (low ++ [⟨e, none⟩]) c = some (.d (.int (v2)), low ++ [⟨e, none⟩], UT zL 94 [.d (Enc.enc a0), .fn 72 [] [.ptr pja1c0 pta1c0 pga1c0 0, .ptr pja1c1 pta1c1 pga1c1 0]] (low ++ [⟨e, none⟩]) c) := fun e c => LY.om (O6 (Hq ba1c0) (Hq ba1c1) h3) c
 have q6 := @f4
 refine Ra hl hf ?_
 rintro g5 s r hl hf
 cases oK k1
 exact ⟨Or.inr rfl, hl, AH (AE r.1)⟩
theorem LN {σ : Type} {yf : (Sl AA) → σ → Option (Bool × σ)} (n : Nat) : ∀ (R : σ → List Fr → Prop) (N : Nat), (∀ s low, R s low → low.length = N) → ∀ (yj yg : Nat), ID zL R yj yg (fun (x : (Sl AA)) => [.d (Enc.enc x)]) yf → ∀ (a0 : (Sl AA)) (a1 : (Sl AK)) (a2 : (Ar 24 Int)) (a5 : AC) (pja3 : Nat) (pta3 : Nat) (pga3 : Nat) (pja4 : Nat) (pta4 : Nat) (pga4 : Nat), (∀ st low, R st low → I8 low pja3 pta3 = some (.box pga3 [.yield yj yg])) → (∀ st low, R st low → I8 low pja4 pta4 = some (.box pga4 [.fn 70 [] [.ptr pja3 pta3 pga3 0, .ptr pja4 pta4 pga4 0, .d (.fptr (Enc.cells a5) 0)]])) → ∀ (low : List Fr) (st : σ), R st low → ∀ r : Bool × σ, Ad yf n a0 a1 a2 a5 st = some r → pj zL 70 [.d (Enc.enc a0), .d (Enc.enc a1), .d (Enc.enc a2), .ptr pja3 pta3 pga3 0, .ptr pja4 pta4 pga4 0, .d (.fptr (Enc.cells a5) 0)] R low (.d (.bool r.1)) r.2 := by
 induction n with
 | zero => intro R N hN yj yg hy a0 a1 a2 a5 pja3 pta3 pga3 pja4 pta4 pga4 ba3S ba4S low st hR r k0; simp [Ad] at k0
 | succ n ih =>
  intro R N hN yj yg hy a0 a1 a2 a5 pja3 pta3 pga3 pja4 pta4 pga4 ba3S ba4S low st hR r k0
  simp only [Ad] at k0; replace k0 := kq k0
  refine AAS Bi IE ?_
  rintro s r hl hf
  have q80 := @kt
  have hlN : low.length = N := hN _ _ hR
  have ba3 := ba3S _ _ hR
  have ba4 := ba4S _ _ hR
  refine Ra hl hf ?_
  rintro g1 s r hl hf
  refine Ra hl hf ?_
  rintro g2 s r hl hf
  refine Bn r.2.2.2.2.2.2.1 k0 (fun c3 k0 => ?_) fun c3 k0 => ?_
  ·obtain ⟨⟨v4, t5⟩, h6, k1⟩ := bnk k0
   dsimp only at k1
   refine regS (B := Bi) (low := low) (Q := R t5) [B_ 9 v4] hl hf ?_ ?_
   ·have f7 : ∀ (fr : Fr) (c : Nat), (om zL).round yj yg [.d (Enc.enc a0)] (low ++ [fr]) c = some (v4, tp zL yj yg [.d (Enc.enc a0)] (low ++ [fr]) c ++ [fr], y3 zL yj yg [.d (Enc.enc a0)] (low ++ [fr]) c) ∧ R t5 (tp zL yj yg [.d (Enc.enc a0)] (low ++ [fr]) c) ∧ (tp zL yj yg [.d (Enc.enc a0)] (low ++ [fr]) c).length = low.length := fun fr c => hy.om hN hR h6 fr c
    simp only [rs, qC, DT, hl, nob hf, hlN, r, (E3 ba3), (fun fr c => (f7 fr c).1), (fun fr c => (f7 fr c).2.1), (fun fr c => (f7 fr c).2.2), reduceCtorEq, Nat.reduceEqDiff, Nat.reduceAdd]
   rintro s r hR0 hf
   obtain ⟨low, hl⟩ : ∃ l, s.low = l := ⟨_, rfl⟩
   rw [hl] at hR0
   have hR := hR0
   have hlN : low.length = N := hN _ _ hR
   have ba3 := ba3S _ _ hR
   have ba4 := ba4S _ _ hR
   cases oK k1
   exact ⟨Or.inr rfl, (by rw [hl]; exact hR), AH (AE r.1)⟩
  obtain ⟨v8, h9, k2⟩ := bnk k0
  refine Ra hl hf ?_
  rintro g10 s r hl hf
  refine Bn r.2.2.2.2.2.1 k2 (fun c11 k2 => ?_) fun c11 k2 => ?_
  ·obtain ⟨v12, h13, k3⟩ := bnk k2
   obtain ⟨⟨v14, t15⟩, h16, k4⟩ := bnk k3
   dsimp only at k4
   refine regS (B := Bi) (low := low) (Q := R t15) [B_ 9 v14] hl hf ?_ ?_
   ·have f17 : ∀ (e : Env) (c : Nat), (om zL).call 70 [.d (Enc.enc a0), .d (Enc.enc v12), .d (Enc.enc a2), .ptr pja3 pta3 pga3 0, .ptr pja4 pta4 pga4 0, .d (.fptr (Enc.cells a5) 0)] (low ++ [⟨e, none⟩]) c = some (.d (.bool v14), dP zL 70 [.d (Enc.enc a0), .d (Enc.enc v12), .d (Enc.enc a2), .ptr pja3 pta3 pga3 0, .ptr pja4 pta4 pga4 0, .d (.fptr (Enc.cells a5) 0)] (low ++ [⟨e, none⟩]) c ++ [⟨e, none⟩], UT zL 70 [.d (Enc.enc a0), .d (Enc.enc v12), .d (Enc.enc a2), .ptr pja3 pta3 pga3 0, .ptr pja4 pta4 pga4 0, .d (.fptr (Enc.cells a5) 0)] (low ++ [⟨e, none⟩]) c) ∧ R t15 (dP zL 70 [.d (Enc.enc a0), .d (Enc.enc v12), .d (Enc.enc a2), .ptr pja3 pta3 pga3 0, .ptr pja4 pta4 pga4 0, .d (.fptr (Enc.cells a5) 0)] (low ++ [⟨e, none⟩]) c) ∧ (dP zL 70 [.d (Enc.enc a0), .d (Enc.enc v12), .d (Enc.enc a2), .ptr pja3 pta3 pga3 0, .ptr pja4 pta4 pga4 0, .d (.fptr (Enc.cells a5) 0)] (low ++ [⟨e, none⟩]) c).length = low.length := fun e c => pj.om hN hR (ih (u7 R ⟨e, none⟩) (N + 1) (SS hN _) yj yg (hy.push _) a0 v12 a2 a5 _ _ _ _ _ _ (HO ba3S _) (HO ba4S _) _ _ ⟨low, rfl, hR⟩ _ h16) c
    simp only [rs, ps, H9, JL, DT, hl, nob hf, hlN, r, (E3 ba4), (oV (sz := 4) rfl h13), (fun e c => (f17 e c).1), (fun e c => (f17 e c).2.1), (fun e c => (f17 e c).2.2), reduceCtorEq, Nat.reduceEqDiff, Nat.reduceAdd]
   rintro s r hR0 hf
   obtain ⟨low, hl⟩ : ∃ l, s.low = l := ⟨_, rfl⟩
   rw [hl] at hR0
   have hR := hR0
   have hlN : low.length = N := hN _ _ hR
   have ba3 := ba3S _ _ hR
   have ba4 := ba4S _ _ hR
   cases oK k4
   exact ⟨Or.inr rfl, (by rw [hl]; exact hR), AH (AE r.1)⟩
  obtain ⟨v18, h19, k5⟩ := bnk k2
  try clear h9
  refine Ra hl hf ?_
  rintro g20 s r hl hf
  have q22 := fun s ro => fM (n := 2) s ro a5.able v18.at_ (Sl.nil : (Sl Int)) (.nils) rfl (by decide) rfl
  refine Ra hl hf ?_
  rintro g21 s r hl hf
  refine Ra hl hf ?_
  rintro g23 s r hl hf
  refine blk ?_
  obtain ⟨o28, l29, k6⟩ := bnk k5
  refine AY (f := A0 (Ad yf n) a0 a1 a2 a5 v18) (E := fun (x : σ × Int) s => BG [E_ 0 a0, E_ 1 a1, (4, .v (.ptr pja4 pta4 pga4 0)), (5, .v (.d (.fptr (Enc.cells a5) 0))), C_ 8 g1 a2, C_ 10 (g20 + 1 + 1 + 1 + 1 + 1) v18, I_ 11 a0.len, E_ 12 ((Mp.get a5.able (Bq.key v18.at_)).getD (Sl.nil : (Sl Int))), I_ 13 x.2] s ∧ R x.1 s.low ∧ NoB Bi s) (Q := fun (o : ((Bool × σ) ⊕ (σ))) j s => match o with | .inl w26 => j = .ret ∧ AAd IE.1 R w26.2 (.d (.bool w26.1)) .ret s | .inr y27 => j = .exit 0 ∧ BG [C_ 8 g1 a2, C_ 10 (g20 + 1 + 1 + 1 + 1 + 1) v18] s ∧ R y27 s.low ∧ NoB Bi s) l29 ?_ ⟨r, (by rw [hl]; exact hR), hf⟩ ?_
  ·rintro ⟨x24, x25⟩ s out ⟨r, hR0, hf⟩ k7
   dsimp only at hR0 r
   obtain ⟨low, hl⟩ : ∃ l, s.low = l := ⟨_, rfl⟩
   rw [hl] at hR0
   have hR := hR0
   have hlN : low.length = N := hN _ _ hR
   have ba3 := ba3S _ _ hR
   have ba4 := ba4S _ _ hR
   simp only [A0] at k7
   refine Ra hl hf ?_
   rintro g30 s r hl hf
   refine Bn r.2.2.2.2.2.2.2.2.2.1 k7 (fun c31 k7 => ?_) fun c31 k7 => ?_
   ·refine blk ?_
    obtain ⟨v32, h33, k8⟩ := bnk k7
    refine Ra hl hf ?_
    rintro g34 s r hl hf
    obtain ⟨v35, h36, k9⟩ := bnk k8
    refine Ra hl hf ?_
    rintro g37 s r hl hf
    obtain ⟨o45, q46, k10⟩ := bnk k9
    refine nZ [E_ 0 a0, E_ 1 a1, (4, .v (.ptr pja4 pta4 pga4 0)), (5, .v (.d (.fptr (Enc.cells a5) 0))), C_ 8 g1 a2, C_ 10 (g20 + 1 + 1 + 1 + 1 + 1) v18, I_ 11 a0.len, E_ 12 ((Mp.get a5.able (Bq.key v18.at_)).getD (Sl.nil : (Sl Int))), I_ 13 x25, N_ 14 (g34 + 1 + 1 + 1 + 1) v32, I_ 15 (W ((W (v35.Week * 4)) + v32)), B_ 85 o45] hl hf ?_ ?_
    ·obtain ⟨v38, h39, q77⟩ := bnd q46
     by_cases c41 : v38 = true
     ·rw [if_pos c41] at q77
      have e1 := oI q77
      have f40 : ∀ (e : Env) (c : Nat) (z0 : Env.get 10 e = some (.box (g20 + 1 + 1 + 1 + 1 + 1) ((Enc.cells v18).map LV.d))) (z1 : Env.get 14 e = some (.box (g34 + 1 + 1 + 1 + 1) [.d (.int v32)])), (om zL).call 71 [.d (Enc.enc a0), .fn 72 [] [.ptr N 10 (g20 + 1 + 1 + 1 + 1 + 1) 0, .ptr N 14 (g34 + 1 + 1 + 1 + 1) 0]] (low ++ [⟨e, none⟩]) c = some (.d (.bool (v38)), low ++ [⟨e, none⟩], UT zL 71 [.d (Enc.enc a0), .fn 72 [] [.ptr N 10 (g20 + 1 + 1 + 1 + 1 + 1) 0, .ptr N 14 (g34 + 1 + 1 + 1 + 1) 0]] (low ++ [⟨e, none⟩]) c) := fun e c z0 z1 => LY.om (Ee (MJ hlN z0) (MJ hlN z1) h39) c
      simp only [rs, ps, KL, KQ, hl, nob hf, hlN, r, f40, c41, ← e1, reduceCtorEq, Nat.reduceEqDiff, Nat.reduceAdd]
     rw [if_neg c41] at q77
     have c41 := eq_false_of_ne_true c41
     by_cases c42 : (decide (Bq.key a2 = Bq.key CC)) = true
     ·rw [if_pos c42] at q77
      have e1 := oI q77
      have f40 : ∀ (e : Env) (c : Nat) (z0 : Env.get 10 e = some (.box (g20 + 1 + 1 + 1 + 1 + 1) ((Enc.cells v18).map LV.d))) (z1 : Env.get 14 e = some (.box (g34 + 1 + 1 + 1 + 1) [.d (.int v32)])), (om zL).call 71 [.d (Enc.enc a0), .fn 72 [] [.ptr N 10 (g20 + 1 + 1 + 1 + 1 + 1) 0, .ptr N 14 (g34 + 1 + 1 + 1 + 1) 0]] (low ++ [⟨e, none⟩]) c = some (.d (.bool (v38)), low ++ [⟨e, none⟩], UT zL 71 [.d (Enc.enc a0), .fn 72 [] [.ptr N 10 (g20 + 1 + 1 + 1 + 1 + 1) 0, .ptr N 14 (g34 + 1 + 1 + 1 + 1) 0]] (low ++ [⟨e, none⟩]) c) := fun e c z0 z1 => LY.om (Ee (MJ hlN z0) (MJ hlN z1) h39) c
      simp only [rs, ps, KL, KQ, hl, nob hf, hlN, r, f40, c41, (Jj).call, c42, ← e1, reduceCtorEq, Nat.reduceEqDiff, Nat.reduceAdd]
     rw [if_neg c42] at q77
     have c42 := eq_false_of_ne_true c42
     obtain ⟨v43, h44, q78⟩ := bnd q77
     have e1 := oI q78
     have f40 : ∀ (e : Env) (c : Nat) (z0 : Env.get 10 e = some (.box (g20 + 1 + 1 + 1 + 1 + 1) ((Enc.cells v18).map LV.d))) (z1 : Env.get 14 e = some (.box (g34 + 1 + 1 + 1 + 1) [.d (.int v32)])), (om zL).call 71 [.d (Enc.enc a0), .fn 72 [] [.ptr N 10 (g20 + 1 + 1 + 1 + 1 + 1) 0, .ptr N 14 (g34 + 1 + 1 + 1 + 1) 0]] (low ++ [⟨e, none⟩]) c = some (.d (.bool (v38)), low ++ [⟨e, none⟩], UT zL 71 [.d (Enc.enc a0), .fn 72 [] [.ptr N 10 (g20 + 1 + 1 + 1 + 1 + 1) 0, .ptr N 14 (g34 + 1 + 1 + 1 + 1) 0]] (low ++ [⟨e, none⟩]) c) := fun e c z0 z1 => LY.om (Ee (MJ hlN z0) (MJ hlN z1) h39) c
     simp only [rs, ps, KL, KQ, hl, nob hf, hlN, r, f40, c41, (Jj).call, c42, (Da h44), (B0 h44 rfl rfl), ← e1, reduceCtorEq, Nat.reduceEqDiff, Nat.reduceAdd]
    rintro s r hl hf
    refine Bn r.2.2.2.2.2.2.2.2.2.2.2.1 k10 (fun c50 k10 => ?_) fun c50 k10 => ?_
    ·refine Ra hl hf ?_
     rintro g51 s r hl hf
     obtain rfl := oK k10
     exact ⟨rfl, r, (by rw [hl]; exact hR), hf⟩
    refine Ra hl hf ?_
    rintro g52 s r hl hf
    obtain ⟨v53, h54, k11⟩ := bnk k10
    have q56 := Da h54
    have q57 := B0 h54 rfl rfl
    have q58 := we h54
    refine Ra hl hf ?_
    rintro g55 s r hl hf
    obtain ⟨v59, h60, k12⟩ := bnk k11
    try clear h13
    obtain ⟨v61, h62, k13⟩ := bnk k12
    have q64 := oV (sz := 4) rfl h60
    have q65 := DZ (sz := 4) (x := (Sl.hot [(AK.mk v18.at_ (W (v18.many - 1)) (W (x25 + 1)))] : Sl AK)) (y := v59) rfl rfl h62
    refine Ra hl hf ?_
    rintro g63 s r hl hf
    obtain ⟨v66, h67, k14⟩ := bnk k13
    obtain ⟨v68, h69, k15⟩ := bnk k14
    obtain ⟨⟨v70, t71⟩, h72, k16⟩ := bnk k15
    dsimp only at k16
    refine regS (B := Bi) (low := low) (Q := R t71) [E_ 0 a0, E_ 1 a1, (4, .v (.ptr pja4 pta4 pga4 0)), (5, .v (.d (.fptr (Enc.cells a5) 0))), C_ 8 g1 a2, C_ 10 (g20 + 1 + 1 + 1 + 1 + 1) v18, I_ 11 a0.len, E_ 12 ((Mp.get a5.able (Bq.key v18.at_)).getD (Sl.nil : (Sl Int))), I_ 13 x25, B_ 122 (!v70)] hl hf ?_ ?_
    ·have f73 : ∀ (e : Env) (c : Nat), (om zL).call 70 [.d (Enc.enc v68), .d (Enc.enc v61), .d (Enc.enc (a2.put (W ((W (v35.Week * 4)) + v32)) (W (v53 + 1)))), .ptr pja3 pta3 pga3 0, .ptr pja4 pta4 pga4 0, .d (.fptr (Enc.cells a5) 0)] (low ++ [⟨e, none⟩]) c = some (.d (.bool v70), dP zL 70 [.d (Enc.enc v68), .d (Enc.enc v61), .d (Enc.enc (a2.put (W ((W (v35.Week * 4)) + v32)) (W (v53 + 1)))), .ptr pja3 pta3 pga3 0, .ptr pja4 pta4 pga4 0, .d (.fptr (Enc.cells a5) 0)] (low ++ [⟨e, none⟩]) c ++ [⟨e, none⟩], UT zL 70 [.d (Enc.enc v68), .d (Enc.enc v61), .d (Enc.enc (a2.put (W ((W (v35.Week * 4)) + v32)) (W (v53 + 1)))), .ptr pja3 pta3 pga3 0, .ptr pja4 pta4 pga4 0, .d (.fptr (Enc.cells a5) 0)] (low ++ [⟨e, none⟩]) c) ∧ R t71 (dP zL 70 [.d (Enc.enc v68), .d (Enc.enc v61), .d (Enc.enc (a2.put (W ((W (v35.Week * 4)) + v32)) (W (v53 + 1)))), .ptr pja3 pta3 pga3 0, .ptr pja4 pta4 pga4 0, .d (.fptr (Enc.cells a5) 0)] (low ++ [⟨e, none⟩]) c) ∧ (dP zL 70 [.d (Enc.enc v68), .d (Enc.enc v61), .d (Enc.enc (a2.put (W ((W (v35.Week * 4)) + v32)) (W (v53 + 1)))), .ptr pja3 pta3 pga3 0, .ptr pja4 pta4 pga4 0, .d (.fptr (Enc.cells a5) 0)] (low ++ [⟨e, none⟩]) c).length = low.length := fun e c => pj.om hN hR (ih (u7 R ⟨e, none⟩) (N + 1) (SS hN _) yj yg (hy.push _) v68 v61 (a2.put (W ((W (v35.Week * 4)) + v32)) (W (v53 + 1))) a5 _ _ _ _ _ _ (HO ba3S _) (HO ba4S _) _ _ ⟨low, rfl, hR⟩ _ h72) c
     simp only [rs, ps, Gm, SG, kx, H9, JL, DT, hl, nob hf, hlN, r, (E3 ba4), (Lm (sz := 3) rfl h67), (DZ (sz := 3) (x := v66) (y := (Sl.cold [(AA.mk v18.at_.piece v18.at_.part v32)] : Sl AA)) rfl rfl h69), (vI h62), (pF h69 (by simp)), (fun e c => (f73 e c).1), (fun e c => (f73 e c).2.1), (fun e c => (f73 e c).2.2), reduceCtorEq, Nat.reduceEqDiff, Nat.reduceAdd]
    rintro s r hR0 hf
    obtain ⟨low, hl⟩ : ∃ l, s.low = l := ⟨_, rfl⟩
    rw [hl] at hR0
    have hR := hR0
    have hlN : low.length = N := hN _ _ hR
    have ba3 := ba3S _ _ hR
    have ba4 := ba4S _ _ hR
    refine JV r.2.2.2.2.2.2.2.2.2.1 k16 (fun c74 k16 => ?_) fun c74 k16 => ?_
    ·refine Ra hl hf ?_
     rintro g75 s r hl hf
     obtain rfl := oK k16
     exact ⟨rfl, r, (by rw [hl]; exact hR), hf⟩
    refine Ra hl hf ?_
    rintro g76 s r hl hf
    obtain rfl := oK k16
    exact ⟨by decide, ⟨rfl, ⟨Or.inr rfl, (by rw [hl]; exact hR), AH (AE r.1)⟩⟩⟩
   obtain rfl := oK k7
   exact ⟨by decide, ⟨rfl, ⟨r.2.2.2.2.1, r.2.2.2.2.2.1, trivial⟩, (by rw [hl]; exact hR), hf⟩⟩
  intro j s hq
  rcases o28 with w26 | y27
  ·try dsimp only at k6 hq
   obtain ⟨rfl, hq⟩ := hq
   cases oK k6
   exact hq
  try dsimp only at k6 hq
  obtain ⟨rfl, r, hR0, hf⟩ := hq
  obtain ⟨low, hl⟩ : ∃ l, s.low = l := ⟨_, rfl⟩
  rw [hl] at hR0
  have hR := hR0
  have hlN : low.length = N := hN _ _ hR
  have ba3 := ba3S _ _ hR
  have ba4 := ba4S _ _ hR
  refine Ra hl hf ?_
  rintro g79 s r hl hf
  cases oK k6
  exact ⟨Or.inr rfl, (by rw [hl]; exact hR), AH (AE r.1)⟩
theorem FW {σ : Type} {R : σ → List Fr → Prop} {N : Nat} (hN : ∀ s low, R s low → low.length = N) {yf : (Sl AA) → σ → Option (Bool × σ)} {yj yg : Nat} (hy : ID zL R yj yg (fun (x : (Sl AA)) => [.d (Enc.enc x)]) yf) {a1 : AC} {a2 : (Sl AK)} {low : List Fr} {st : σ} (hR : R st low) {r : Unit × σ} (k0 : Br yf a1 a2 st = some r) : pj zL 69 [.yield yj yg, .d (.fptr (Enc.cells a1) 0), .d (.fptr [Enc.enc a2] 0)] R low (.d (.tup [])) r.2 := by
 unfold Br at k0; replace k0 := kq k0
 refine AAS J0 Qr ?_
 rintro s r hl hf
 have hlN : low.length = N := hN _ _ hR
 refine Ra hl hf ?_
 rintro g1 s r hl hf
 refine Ra hl hf ?_
 rintro g2 s r hl hf
 have q4 := @P3
 refine Ra hl hf ?_
 rintro g3 s r hl hf
 obtain ⟨⟨v5, t6⟩, h7, k1⟩ := bnk k0
 dsimp only at k1
 refine regS (B := J0) (low := low) (Q := R t6) [] hl hf ?_ ?_
 ·have f8 : ∀ (e : Env) (c : Nat) (z0 : Env.get 3 e = some (.box g1 [.yield yj yg])) (z1 : Env.get 4 e = some (.box g2 [.fn 70 [] [.ptr N 3 g1 0, .ptr N 4 g2 0, .d (.fptr (Enc.cells a1) 0)]])), (om zL).call 70 [.d .nils, .d (Enc.enc a2), .d (Enc.enc CC), .ptr N 3 g1 0, .ptr N 4 g2 0, .d (.fptr (Enc.cells a1) 0)] (low ++ [⟨e, none⟩]) c = some (.d (.bool v5), dP zL 70 [.d .nils, .d (Enc.enc a2), .d (Enc.enc CC), .ptr N 3 g1 0, .ptr N 4 g2 0, .d (.fptr (Enc.cells a1) 0)] (low ++ [⟨e, none⟩]) c ++ [⟨e, none⟩], UT zL 70 [.d .nils, .d (Enc.enc a2), .d (Enc.enc CC), .ptr N 3 g1 0, .ptr N 4 g2 0, .d (.fptr (Enc.cells a1) 0)] (low ++ [⟨e, none⟩]) c) ∧ R t6 (dP zL 70 [.d .nils, .d (Enc.enc a2), .d (Enc.enc CC), .ptr N 3 g1 0, .ptr N 4 g2 0, .d (.fptr (Enc.cells a1) 0)] (low ++ [⟨e, none⟩]) c) ∧ (dP zL 70 [.d .nils, .d (Enc.enc a2), .d (Enc.enc CC), .ptr N 3 g1 0, .ptr N 4 g2 0, .d (.fptr (Enc.cells a1) 0)] (low ++ [⟨e, none⟩]) c).length = low.length := fun e c z0 z1 => pj.om hN hR (LN 64 (u7 R ⟨e, none⟩) (N + 1) (SS hN _) yj yg (hy.push _) (Sl.nil : (Sl AA)) a2 CC a1 _ _ _ _ _ _ (MD hN z0) (MD hN z1) _ _ ⟨low, rfl, hR⟩ _ h7) c
  simp only [rs, Bh, H9, JL, DT, hl, nob hf, hlN, r, (Jj).call, (fun e c z0 z1 => (f8 e c z0 z1).1), (fun e c z0 z1 => (f8 e c z0 z1).2.1), (fun e c z0 z1 => (f8 e c z0 z1).2.2), reduceCtorEq, Nat.reduceEqDiff, Nat.reduceAdd]
 rintro s - hR0 hf
 obtain ⟨low, hl⟩ : ∃ l, s.low = l := ⟨_, rfl⟩
 rw [hl] at hR0
 have hR := hR0
 have hlN : low.length = N := hN _ _ hR
 cases oK k1
 exact ⟨Or.inl rfl, (by rw [hl]; exact hR), se _⟩
theorem Qx {a0 : AC} {a1 : (Sl AK)} {r : ((Sl AA) × Bool)} (k0 : CL a0 a1 = some r) : Fin zL 37 [Enc.enc a0, Enc.enc a1] (Enc.enc r) := by
 unfold CL at k0; replace k0 := kq k0
 refine fnN Fb Sj ?_
 rintro low s ⟨r0, r1, -⟩ hl hf
 refine Ra hl hf ?_
 rintro g1 s ⟨r1, r2, r4, r5, -⟩ hl hf
 obtain ⟨c2, hc2⟩ := Hk (LP := zL) (ds := [Enc.enc a0, Enc.enc a1]) (fun low => Ia (low := low) a0 a1); simp only [List.map_cons, List.map_nil] at hc2
 have q4 := @hc2
 refine Ra hl hf ?_
 rintro g3 s ⟨r4, r5, r9, -⟩ hl hf
 refine blk ?_
 obtain ⟨⟨_, o10⟩, l11, k3⟩ := bnk k0
 refine Run.rng (B := Fb) (base := low) (n := 69) (a := []) (b := [.d (.fptr (Enc.cells a0) 0), .d (.fptr [Enc.enc a1] 0)]) (jm := fun (x : (Sl AA)) => match x with | _ => Jmp.ret) (l := fun (o : (Unit) ⊕ (Sl AA)) => match o with | .inl _ => [(4, .box (g1 + 1) [.d (Enc.enc (Sl.nil : (Sl AA)))]), (5, .box (g1 + 1 + 1) [.d (.bool false)]), (9, .v (.d (.fn 69 [] [.fptr (Enc.cells a0) 0, .fptr [Enc.enc a1] 0])))] | .inr y6 => [(4, .box (g1 + 1) [Sl.lv y6]), (5, .box (g1 + 1 + 1) [.d (.bool true)]), (9, .v (.d (.fn 69 [] [.fptr (Enc.cells a0) 0, .fptr [Enc.enc a1] 0])))]) (t0 := ()) (st' := o10) (v := .d (.tup [])) hl hf (by simp only [Oz, KH, FT, r9, Hv, M4, SQ, WX, List.map_cons, List.map_nil]) ⟨r4, r5, r9, trivial⟩ ?_ ?_
 ·intro g low1 hc
  refine FW (R := u0 Fb low g [10] _ _ (fun (x : (Sl AA)) => match x with | _ => Jmp.ret) (fun (o : (Unit) ⊕ (Sl AA)) => match o with | .inl _ => [(4, .box (g1 + 1) [.d (Enc.enc (Sl.nil : (Sl AA)))]), (5, .box (g1 + 1 + 1) [.d (.bool false)]), (9, .v (.d (.fn 69 [] [.fptr (Enc.cells a0) 0, .fptr [Enc.enc a1] 0])))] | .inr y6 => [(4, .box (g1 + 1) [Sl.lv y6]), (5, .box (g1 + 1 + 1) [.d (.bool true)]), (9, .v (.d (.fn 69 [] [.fptr (Enc.cells a0) 0, .fptr [Enc.enc a1] 0])))])) (fun st l h => Wb st l h) ?_  hc l11
  refine Il (by decide) (fun _ => rfl) ?_
  rintro a5 _ out k1 e above low0 lw lp s hr ha hr0 hBB hl hf
  obtain ⟨e4, e5, e9, -⟩ := hr0
  have r4 : s.raw 4 = some (.v (.ptr low.length 4 (g1 + 1) 0)) := hr 4 _ rfl e4
  have r5 : s.raw 5 = some (.v (.ptr low.length 5 (g1 + 1 + 1) 0)) := hr 5 _ rfl e5
  have r9 : s.raw 9 = some (.v (.d (.fn 69 [] [.fptr (Enc.cells a0) 0, .fptr [Enc.enc a1] 0]))) := hr 9 _ rfl e9
  obtain ⟨r10, -⟩ := ha
  unfold Dy at k1
  replace k1 := kq k1
  refine Nx.run <| Ra hl hf ?_
  rintro g7 s ⟨r4, r5, r6, -⟩ hl hf
  refine ⟨rfl, hl, ?_⟩
  intro s2 hraw hl
  replace r4 := (hraw 4).trans r4
  replace r5 := (hraw 5).trans r5
  replace r6 := (hraw 6).trans r6
  replace hf := NoB.congr hf hraw
  clear hraw
  obtain ⟨s, hs⟩ : ∃ q, q = s2 := ⟨_, rfl⟩
  rw [← hs] at r4 r5 r6 hl hf
  rw [← hs]
  clear hs s2
  have hB := hBB
  obtain ⟨m4, m5, m9, -⟩ := Im.all hB
  have hlt : low.length < lw.length := by have := Im.len hB; omega
  refine Nx.run <| blk ?_
  obtain ⟨v8, h9, k2⟩ := bnk k1
  refine regS (B := Fb) (low := lw) (Q := fun q => q = (CQ (CQ lw low.length 4 (.box (g1 + 1) [Sl.lv v8])) low.length 5 (.box (g1 + 1 + 1) [.d (.bool true)]))) [] hl hf ?_ ?_
  ·simp only [rs, JC, HK, F4, Kt, Kw, hl, nob hf, r4, r5, r6, m4, m5, m9, hlt, (Lm (sz := 3) rfl h9), (VA (x := v8)), (M8 (v := .bool true)), reduceCtorEq, Nat.reduceEqDiff, Nat.reduceAdd]
  rintro s - hl hf
  replace hl : s.low = (CQ (CQ lw low.length 4 (.box (g1 + 1) [Sl.lv v8])) low.length 5 (.box (g1 + 1 + 1) [.d (.bool true)])) := hl
  replace hB := Im.set (l' := [(4, .box (g1 + 1) [Sl.lv v8]), (5, .box (g1 + 1 + 1) [.d (.bool false)]), (9, .v (.d (.fn 69 [] [.fptr (Enc.cells a0) 0, .fptr [Enc.enc a1] 0])))]) hB 4 _ rfl (fun s ⟨q4, q5, q9, _⟩ => ⟨(by rw [Ah, if_pos rfl]), (by rw [Ah, if_neg (by decide)]; exact q5), (by rw [Ah, if_neg (by decide)]; exact q9), trivial⟩)
  replace hB := Im.set (l' := [(4, .box (g1 + 1) [Sl.lv v8]), (5, .box (g1 + 1 + 1) [.d (.bool true)]), (9, .v (.d (.fn 69 [] [.fptr (Enc.cells a0) 0, .fptr [Enc.enc a1] 0])))]) hB 5 _ rfl (fun s ⟨q4, q5, q9, _⟩ => ⟨(by rw [Ah, if_neg (by decide)]; exact q4), (by rw [Ah, if_pos rfl]), (by rw [Ah, if_neg (by decide)]; exact q9), trivial⟩)
  obtain ⟨lw, hlow⟩ : ∃ q, q = (CQ (CQ lw low.length 4 (.box (g1 + 1) [Sl.lv v8])) low.length 5 (.box (g1 + 1 + 1) [.d (.bool true)])) := ⟨_, rfl⟩
  rw [← hlow] at hl hB
  obtain ⟨m4, m5, m9, -⟩ := Im.all hB
  have hlt : low.length < lw.length := by have := Im.len hB; omega
  obtain rfl := oK k2
  exact ⟨rfl, rfl, (show Jmp.ret ≠ Jmp.normal by decide), by rw [hl]; exact OW hB (fun s ⟨q4, q5, q9, _⟩ => ⟨q4, q5, q9, trivial⟩)⟩
 ·intro s hl hf hq
  rcases o10 with _ | y6
  ·try dsimp only at k3 hq
   obtain ⟨r4, r5, r9, -⟩ := hq
   refine qq ?_
   have q13 := @mM
   refine Ra hl hf ?_
   rintro g12 s ⟨r4, r5, -⟩ hl hf
   cases oK k3
   exact ⟨Or.inr rfl, hl, Av (Hw r4) (Hw r5)⟩
  ·try dsimp only at k3 hq
   obtain ⟨r4, r5, r9, -⟩ := hq
   refine qq ?_
   cases oK k3
   exact ⟨Or.inr rfl, hl, Av (W2 r4) (Hw r5)⟩
def H3 := fun a0 a1 => Cq.mk (@Qx a0 a1)
theorem gR {a0 : BenchBook} {a1 : Int} {r : (Int × Int)} (k0 : IH a0 a1 = some r) : Fin zL 11 [Enc.enc a0, .int a1] (Enc.enc r) := by
 unfold IH at k0; replace k0 := kq k0
 refine fnN PX VS ?_
 rintro low s r hl hf
 have q28 := @EF
 have q29 := @H3
 have q30 := @EN
 have q31 := @J4
 refine Ra hl hf ?_
 rintro g1 s r hl hf
 obtain ⟨v2, h3, k1⟩ := bnk k0
 refine Ra hl hf ?_
 rintro g4 s r hl hf
 refine Ra hl hf ?_
 rintro g5 s r hl hf
 refine JV r.2.2.2.2.1 k1 (fun c6 k1 => ?_) fun c6 k1 => ?_
 ·obtain ⟨v7, h8, k2⟩ := bnk k1
  refine Ra hl hf ?_
  rintro g9 s r hl hf
  refine blk ?_
  obtain ⟨o12, l13, k3⟩ := bnk k2
  refine AY (f := GU a1 v2 v7) (E := fun (x : Int) s => BG [I_ 1 a1, C_ 6 (g4 + 1 + 1 + 1 + 1 + 1 + 1 + 1 + 1) v2.1, I_ 28 v7.Parts.len, I_ 29 x] s ∧ s.low = low ∧ NoB PX s) (Q := fun (o : ((Int × Int) ⊕ (Unit))) j s => match o with | .inl w11 => j = .ret ∧ FnJ VS.1 low (.d (Enc.enc w11)) .ret s | .inr _ => j = .exit 0 ∧ BG [C_ 6 (g4 + 1 + 1 + 1 + 1 + 1 + 1 + 1 + 1) v2.1] s ∧ s.low = low ∧ NoB PX s) l13 ?_ ⟨r, hl, hf⟩ ?_
  ·rintro x10 s out ⟨r, hl, hf⟩ k4
   unfold GU at k4
   refine Ra hl hf ?_
   rintro g14 s r hl hf
   refine Bn r.2.2.2.2.1 k4 (fun c15 k4 => ?_) fun c15 k4 => ?_
   ·refine blk <| Ra hl hf ?_
    rintro g16 s r hl hf
    obtain ⟨v17, h18, k5⟩ := bnk k4
    obtain ⟨v19, h20, k6⟩ := bnk k5
    refine Ra hl hf ?_
    rintro g21 s r hl hf
    refine Ra hl hf ?_
    rintro g22 s r hl hf
    refine JV r.2.2.2.2.2.1 k6 (fun c23 k6 => ?_) fun c23 k6 => ?_
    ·refine Ra hl hf ?_
     rintro g24 s r hl hf
     obtain rfl := oK k6
     exact ⟨rfl, r, hl, hf⟩
    refine Ra hl hf ?_
    rintro g25 s r hl hf
    obtain rfl := oK k6
    exact ⟨by decide, ⟨rfl, ⟨Or.inr rfl, hl, Av (AE r.1) (AE r.2.1)⟩⟩⟩
   obtain rfl := oK k4
   exact ⟨by decide, ⟨rfl, ⟨r.2.1, trivial⟩, hl, hf⟩⟩
  intro j s hq
  rcases o12 with w11 | _
  ·try dsimp only at k3 hq
   obtain ⟨rfl, hq⟩ := hq
   cases oK k3
   exact hq
  try dsimp only at k3 hq
  obtain ⟨rfl, r, hl, hf⟩ := hq
  refine Ra hl hf ?_
  rintro g26 s r hl hf
  cases oK k3
  exact ⟨Or.inr rfl, hl, Av (AE r.1) (AE r.2.1)⟩
 refine Ra hl hf ?_
 rintro g27 s r hl hf
 cases oK k1
 exact ⟨Or.inr rfl, hl, Av (AE r.1) (AE r.2.1)⟩
def VM := fun a0 a1 => Cq.mk (@gR a0 a1)
theorem gl {a0 : Int} {a1 : Int} {r : (Sl Int)} (k0 : Jt a0 a1 = some r) : Fin zL 68 [.int a0, .int a1] (Enc.enc r) := by
 unfold Jt at k0; replace k0 := kq k0
 refine fnN Oj j3 ?_
 rintro low s r hl hf
 have q22 := @Q4
 refine Ra hl hf ?_
 rintro g1 s r hl hf
 refine Ra hl hf ?_
 rintro g2 s r hl hf
 refine Ra hl hf ?_
 rintro g3 s r hl hf
 refine blk ?_
 obtain ⟨o7, l8, k1⟩ := bnk k0
 refine AY (f := GL a0 a1) (E := fun (x : (Sl Int) × Int) s => BG [I_ 0 a0, I_ 1 a1, (5, .v (Sl.lv x.1)), I_ 6 x.2] s ∧ s.low = low ∧ NoB Oj s) (Q := fun (y6 : (Sl Int)) j s => j = .exit 0 ∧ BG [(5, .v (Sl.lv y6))] s ∧ s.low = low ∧ NoB Oj s) l8 ?_ ⟨r, hl, hf⟩ ?_
 ·rintro ⟨x4, x5⟩ s out ⟨r, hl, hf⟩ k2
  dsimp only at r
  simp only [GL] at k2
  refine Ra hl hf ?_
  rintro g9 s r hl hf
  refine Bn r.2.2.2.2.1 k2 (fun c10 k2 => ?_) fun c10 k2 => ?_
  ·refine blk ?_
   obtain ⟨v11, h12, k3⟩ := bnk k2
   refine Ra hl hf ?_
   rintro g13 s r hl hf
   refine Bn r.2.2.2.2.1 k3 (fun c14 k3 => ?_) fun c14 k3 => ?_
   ·obtain ⟨v15, h16, k4⟩ := bnk k3
    have q18 := DZ (sz := 1) (x := x4) (y := (Sl.cold [x5] : Sl Int)) rfl rfl h16
    refine Ra hl hf ?_
    rintro g17 s r hl hf
    refine Ra hl hf ?_
    rintro g19 s r hl hf
    obtain rfl := oK k4
    exact ⟨rfl, r, hl, hf⟩
   refine Ra hl hf ?_
   rintro g20 s r hl hf
   obtain rfl := oK k3
   exact ⟨rfl, r, hl, hf⟩
  obtain rfl := oK k2
  exact ⟨by decide, ⟨rfl, ⟨r.2.2.1, trivial⟩, hl, hf⟩⟩
 intro j s hq
 obtain ⟨y6, rfl⟩ : ∃ x, x = o7 := ⟨_, rfl⟩
 try dsimp only at k1 hq
 obtain ⟨rfl, r, hl, hf⟩ := hq
 refine Ra hl hf ?_
 rintro g21 s r hl hf
 cases oK k1
 exact ⟨Or.inr rfl, hl, AH (JI r.1)⟩
def VK := fun a0 a1 => Cq.mk (@gl a0 a1)
theorem MM (n : Nat) : ∀ (a0 : BenchBook) (a1 : (Sl (Sl (Sl Int)))) (a2 : Int) (a3 : Int) (a4 : Int) (a5 : (Sl AA)), ∀ r : (Sl (Sl AA)), BC n a0 a1 a2 a3 a4 a5 = some r → Fin zL 40 [Enc.enc a0, Enc.enc a1, .int a2, .int a3, .int a4, Enc.enc a5] (Enc.enc r) := by
 induction n with
 | zero => intro a0 a1 a2 a3 a4 a5 r k0; simp [BC] at k0
 | succ n ih =>
  intro a0 a1 a2 a3 a4 a5 r k0
  simp only [BC] at k0; replace k0 := kq k0
  refine fnN DG WB ?_
  rintro low s r hl hf
  have q88 := @VK
  refine Ra hl hf ?_
  rintro g1 s r hl hf
  refine Ra hl hf ?_
  rintro g2 s r hl hf
  refine Bn r.2.2.2.2.2.2.1 k0 (fun c3 k0 => ?_) fun c3 k0 => ?_
  ·refine Ra hl hf ?_
   rintro g4 s r hl hf
   cases oK k0
   exact ⟨Or.inr rfl, hl, AH (JI r.1)⟩
  refine Ra hl hf ?_
  rintro g5 s r hl hf
  obtain ⟨v6, h7, k1⟩ := bnk k0
  obtain ⟨v8, h9, k2⟩ := bnk k1
  refine Ra hl hf ?_
  rintro g10 s r hl hf
  refine Ra hl hf ?_
  rintro g11 s r hl hf
  refine blk ?_
  obtain ⟨o15, l16, k3⟩ := bnk k2
  refine AY (f := Bw (BC n) a0 a1 a2 a3 a4 a5 v8) (E := fun (x : (Sl (Sl AA)) × Int) s => BG [E_ 1 a1, I_ 2 a2, I_ 3 a3, I_ 4 a4, E_ 5 a5, C_ 6 g1 a0, (13, .v (Sl.lv x.1)), E_ 14 v8, I_ 15 x.2] s ∧ s.low = low ∧ NoB DG s) (Q := fun (y14 : (Sl (Sl AA))) j s => j = .exit 0 ∧ BG [C_ 6 g1 a0, (13, .v (Sl.lv y14))] s ∧ s.low = low ∧ NoB DG s) l16 ?_ ⟨r, hl, hf⟩ ?_
  ·rintro ⟨x12, x13⟩ s out ⟨r, hl, hf⟩ k4
   dsimp only at r
   simp only [Bw] at k4
   obtain ⟨v17, h18, k5⟩ := bnk k4
   have q20 := SN h18
   refine Ra hl hf ?_
   rintro g19 s r hl hf
   refine Bn r.2.2.2.2.2.2.2.2.2.1 k5 (fun c21 k5 => ?_) fun c21 k5 => ?_
   ·refine blk ?_
    obtain ⟨v22, h23, k6⟩ := bnk k5
    refine Ra hl hf ?_
    rintro g24 s r hl hf
    obtain ⟨v25, h26, k7⟩ := bnk k6
    obtain ⟨v27, h28, k8⟩ := bnk k7
    obtain ⟨v29, h30, k9⟩ := bnk k8
    have q32 := @N8
    have q33 := DZ (sz := 3) (x := (Sl.hot [] : Sl AA)) (y := a5) rfl rfl h30
    refine Ra hl hf ?_
    rintro g31 s r hl hf
    refine Ra hl hf ?_
    rintro g34 s r hl hf
    refine blk ?_
    obtain ⟨o44, l45, k10⟩ := bnk k9
    refine AY (f := Bc a2 a3 a5 v8 v22) (E := fun (x : (Sl (Sl AA)) × Int × Bool × (Sl AA) × Int) s => BG [E_ 1 a1, I_ 2 a2, I_ 3 a3, I_ 4 a4, E_ 5 a5, C_ 6 g1 a0, (13, .v (Sl.lv x.1)), E_ 14 v8, I_ 15 x.2.1, E_ 16 v22, B_ 17 x.2.2.1, (18, .v (Sl.lv x.2.2.2.1)), I_ 19 x.2.2.2.2] s ∧ s.low = low ∧ NoB DG s) (Q := fun (o : (Sl (Sl AA)) × Int × Bool × (Sl AA)) j s => match o with | (y40, y41, y42, y43) => j = .exit 2 ∧ BG [E_ 1 a1, I_ 2 a2, I_ 3 a3, I_ 4 a4, E_ 5 a5, C_ 6 g1 a0, (13, .v (Sl.lv y40)), E_ 14 v8, I_ 15 y41, B_ 17 y42, (18, .v (Sl.lv y43))] s ∧ s.low = low ∧ NoB DG s) l45 ?_ ⟨r, hl, hf⟩ ?_
    ·rintro ⟨x35, x36, x37, x38, x39⟩ s out ⟨r, hl, hf⟩ k11
     dsimp only at r
     simp only [Bc] at k11
     refine Rx (fun g48 => [B_ 67 (x37 && (decide (x39 < v22.len)))]) hl hf ?_
     rintro g48 s r hl hf
     refine Bn r.2.2.2.2.2.2.2.2.2.2.2.2.2.1 k11 (fun c49 k11 => ?_) fun c49 k11 => ?_
     ·refine blk ?_
      obtain ⟨v50, h51, k12⟩ := bnk k11
      obtain ⟨v52, h53, k13⟩ := bnk k12
      refine Ra hl hf ?_
      rintro g54 s r hl hf
      refine Ra hl hf ?_
      rintro g55 s r hl hf
      refine blk ?_
      obtain ⟨o59, l60, k14⟩ := bnk k13
      refine AY (f := Dl a5 v52) (E := fun (x : Bool × Int) s => BG [E_ 1 a1, I_ 2 a2, I_ 3 a3, I_ 4 a4, E_ 5 a5, C_ 6 g1 a0, (13, .v (Sl.lv x35)), E_ 14 v8, I_ 15 x36, E_ 16 v22, B_ 17 x.1, (18, .v (Sl.lv x38)), I_ 19 x39, I_ 20 v52, I_ 21 x.2] s ∧ s.low = low ∧ NoB DG s) (Q := fun (y58 : Bool) j s => j = .exit 4 ∧ BG [E_ 1 a1, I_ 2 a2, I_ 3 a3, I_ 4 a4, E_ 5 a5, C_ 6 g1 a0, (13, .v (Sl.lv x35)), E_ 14 v8, I_ 15 x36, E_ 16 v22, B_ 17 y58, (18, .v (Sl.lv x38)), I_ 19 x39, I_ 20 v52] s ∧ s.low = low ∧ NoB DG s) l60 ?_ ⟨r, hl, hf⟩ ?_
      ·rintro ⟨x56, x57⟩ s out ⟨r, hl, hf⟩ k15
       dsimp only at r
       simp only [Dl] at k15
       refine Ra hl hf ?_
       rintro g61 s r hl hf
       refine Bn r.2.2.2.2.2.2.2.2.2.2.2.2.2.2.2.1 k15 (fun c62 k15 => ?_) fun c62 k15 => ?_
       ·refine blk ?_
        obtain ⟨o66, q, k16⟩ := bnk k15
        refine Rq (fun g68 => [B_ 17 o66]) hl hf q ?_
        rintro g68 s r hl hf
        refine Ra hl hf ?_
        rintro g69 s r hl hf
        obtain rfl := oK k16
        exact ⟨rfl, r, hl, hf⟩
       obtain rfl := oK k15
       exact ⟨by decide, ⟨rfl, ⟨r.1, r.2.1, r.2.2.1, r.2.2.2.1, r.2.2.2.2.1, r.2.2.2.2.2.1, r.2.2.2.2.2.2.1, r.2.2.2.2.2.2.2.1, r.2.2.2.2.2.2.2.2.1, r.2.2.2.2.2.2.2.2.2.1, r.2.2.2.2.2.2.2.2.2.2.1, r.2.2.2.2.2.2.2.2.2.2.2.1, r.2.2.2.2.2.2.2.2.2.2.2.2.1, r.2.2.2.2.2.2.2.2.2.2.2.2.2.1, trivial⟩, hl, hf⟩⟩
      intro j s hq
      obtain ⟨y58, rfl⟩ : ∃ x, x = o59 := ⟨_, rfl⟩
      try dsimp only at k14 hq
      obtain ⟨rfl, r, hl, hf⟩ := hq
      obtain ⟨v70, h71, k17⟩ := bnk k14
      have q73 := @Gm
      have q74 := DZ (sz := 3) (x := x38) (y := (Sl.cold [(AA.mk a2 a3 v52)] : Sl AA)) rfl rfl h71
      refine Ra hl hf ?_
      rintro g72 s r hl hf
      refine Ra hl hf ?_
      rintro g75 s r hl hf
      obtain rfl := oK k17
      exact ⟨rfl, r, hl, hf⟩
     obtain rfl := oK k11
     exact ⟨by decide, ⟨rfl, ⟨r.1, r.2.1, r.2.2.1, r.2.2.2.1, r.2.2.2.2.1, r.2.2.2.2.2.1, r.2.2.2.2.2.2.1, r.2.2.2.2.2.2.2.1, r.2.2.2.2.2.2.2.2.1, r.2.2.2.2.2.2.2.2.2.2.1, r.2.2.2.2.2.2.2.2.2.2.2.1, trivial⟩, hl, hf⟩⟩
    intro j s hq
    obtain ⟨y40, y41, y42, y43⟩ := o44
    try dsimp only at k10 hq
    obtain ⟨rfl, r, hl, hf⟩ := hq
    refine Ra hl hf ?_
    rintro g76 s r hl hf
    refine Bn r.2.2.2.2.2.2.2.2.2.2.1 k10 (fun c77 k10 => ?_) fun c77 k10 => ?_
    ·obtain ⟨v78, h79, k18⟩ := bnk k10
     obtain ⟨v80, h81, k19⟩ := bnk k18
     have q84 := DZ (sz := 1) (x := y40) (y := v78) rfl rfl h81
     refine Ra hl hf ?_ (h := by intro c; simp only [(ih a0 a1 a2 (W (a3 + 1)) a4 y43 v78 h79).call, rt, ps, nob hf, *, reduceCtorEq, Nat.reduceEqDiff, Nat.reduceAdd, Nat.reduceMul] <;> rfl)
     rintro g82 s r hl hf
     refine Ra hl hf ?_
     rintro g85 s r hl hf
     obtain rfl := oK k19
     exact ⟨rfl, r, hl, hf⟩
    refine Ra hl hf ?_
    rintro g86 s r hl hf
    obtain rfl := oK k10
    exact ⟨rfl, r, hl, hf⟩
   obtain rfl := oK k5
   exact ⟨by decide, ⟨rfl, ⟨r.2.2.2.2.2.1, r.2.2.2.2.2.2.1, trivial⟩, hl, hf⟩⟩
  intro j s hq
  obtain ⟨y14, rfl⟩ : ∃ x, x = o15 := ⟨_, rfl⟩
  try dsimp only at k3 hq
  obtain ⟨rfl, r, hl, hf⟩ := hq
  refine Ra hl hf ?_
  rintro g87 s r hl hf
  cases oK k3
  exact ⟨Or.inr rfl, hl, AH (JI r.1)⟩
end Go.Lf
