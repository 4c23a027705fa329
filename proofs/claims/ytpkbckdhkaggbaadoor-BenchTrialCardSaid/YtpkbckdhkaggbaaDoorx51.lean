/- A part of the proof. -/
import Derived.Test.YtpkbckdhkaggbaaDoorx27
import Derived.Test.YtpkbckdhkaggbaaDoorx29
import Derived.Test.YtpkbckdhkaggbaaDoorx48
import Derived.Test.YtpkbckdhkaggbaaDoorx49
import Derived.Test.YtpkbckdhkaggbaaDoorx50
set_option linter.all false
set_option maxHeartbeats 9999999
namespace Go.Lf
open Go
theorem Yt {a0 : (Sl AC)} {a1 : (Sl AC)} {r : Bool} (k0 : Fa a0 a1 = some r) : Fin zL 31 [vG.enc a0, vG.enc a1] (.bool r) := by
 unfold Fa at k0; replace k0 := kq k0
 refine vF Lp ai ?_
 rintro low s r hl hf
 refine Ra hl hf ?_
 rintro g1 s r hl hf
 refine Ra hl hf ?_
 rintro g2 s r hl hf
 refine Ra hl hf ?_
 rintro g3 s r hl hf
 refine uh ?_
 obtain ⟨o7, l8, k1⟩ := uT k0
 refine A9 (f := Dh a0 a1) (E := fun (x : Bool × Int) s => DW [E_ 0 a0, E_ 1 a1, B_ 5 x.1, I_ 6 x.2] s ∧ s.low = low ∧ uY Lp s) (Q := fun (y6 : Bool) j s => j = .exit 0 ∧ DW [B_ 5 y6] s ∧ s.low = low ∧ uY Lp s) l8 ?_ ⟨r, hl, hf⟩ ?_
 ·rintro ⟨x4, x5⟩ s out ⟨r, hl, hf⟩ k2
  dsimp only at r
  simp only [Dh] at k2
  refine Rx (fun g11 => [B_ 18 (x4 && (decide (x5 < a0.len)))]) hl hf ?_
  rintro g11 s r hl hf
  refine E2 r.2.2.2.2.1 k2 (fun c12 k2 => ?_) fun c12 k2 => ?_
  ·refine uh ?_
   obtain ⟨v13, h14, k3⟩ := uT k2
   obtain ⟨v15, h16, k4⟩ := uT k3
   refine Ra hl hf ?_
   rintro g17 s r hl hf
   refine Ra hl hf ?_
   rintro g18 s r hl hf
   obtain rfl := oK k4
   exact ⟨rfl, r, hl, hf⟩
  obtain rfl := oK k2
  exact ⟨by decide, ⟨rfl, ⟨r.2.2.1, trivial⟩, hl, hf⟩⟩
 intro j s hq
 obtain ⟨y6, rfl⟩ : ∃ x, x = o7 := ⟨_, rfl⟩
 try dsimp only at k1 hq
 obtain ⟨rfl, r, hl, hf⟩ := hq
 refine Ra hl hf ?_
 rintro g19 s r hl hf
 cases oK k1
 exact ⟨Or.inr rfl, hl, AO (AL r.1)⟩
def bE := fun a0 a1 => Cq.mk (@Yt a0 a1)
theorem LI {r : Bool} (k0 : BI = some r) : Fin zL 7 [] (.bool r) := by
 unfold BI at k0; replace k0 := kq k0
 refine vF WA W0 ?_
 rintro low s - hl hf
 have q62 := @OD
 have q63 := @NQ
 have q64 := @bO
 have q65 := @bL
 have q66 := @ea
 have q67 := @RS
 have q68 := @Oi
 have q69 := @aF
 have q70 := @dA
 have q71 := @aH
 have q72 := @ek
 have q73 := @bE
 have q74 := @RE
 have q75 := @ZG
 have q76 := @Ym
 refine Ra hl hf ?_
 rintro g1 s - hl hf
 obtain ⟨v2, h3, k1⟩ := uT k0
 refine Ra hl hf ?_
 rintro g4 s r hl hf
 obtain ⟨v5, h6, k2⟩ := uT k1
 refine Ra hl hf ?_
 rintro g7 s r hl hf
 obtain ⟨v8, h9, k3⟩ := uT k2
 refine Ra hl hf ?_
 rintro g10 s r hl hf
 obtain ⟨v11, h12, k4⟩ := uT k3
 refine Ra hl hf ?_
 rintro g13 s r hl hf
 obtain ⟨v14, h15, k5⟩ := uT k4
 refine Ra hl hf ?_
 rintro g16 s r hl hf
 obtain ⟨o30, q, k6⟩ := uT k5
 refine Rq (fun g32 => [B_ 82 o30]) hl hf q ?_
 rintro g32 s r hl hf
 refine E2 r.1 k6 (fun uR k6 => ?_) fun uR k6 => ?_
 ·refine Ra hl hf ?_
  rintro g34 s r hl hf
  cases oK k6
  exact ⟨Or.inr rfl, hl, AO (AL r.1)⟩
 obtain ⟨v35, h36, k7⟩ := uT k6
 refine Ra hl hf ?_
 rintro g37 s r hl hf
 obtain ⟨v38, h39, k8⟩ := uT k7
 refine Ra hl hf ?_
 rintro g40 s r hl hf
 obtain ⟨v41, h42, k9⟩ := uT k8
 refine Ra hl hf ?_
 rintro g43 s r hl hf
 obtain ⟨v44, h45, k10⟩ := uT k9
 refine Ra hl hf ?_
 rintro g46 s r hl hf
 obtain ⟨o59, q, k11⟩ := uT k10
 refine Rq (fun g61 => [B_ 0 o59]) hl hf q ?_
 rintro g61 s r hl hf
 cases oK k11
 exact ⟨Or.inr rfl, hl, AO (AL r.1)⟩
def JF := Cq.mk (@LI)
theorem Jq {a0 : BenchBook} {a1 : (Ar 3 Int)} {r : Bool} (k0 : G9 a0 a1 = some r) : Fin zL 3 [vG.enc a0, vG.enc a1] (.bool r) := by
 unfold G9 at k0; replace k0 := kq k0
 refine vF SN Rt ?_
 rintro low s r hl hf
 have q72 := @OD
 have q73 := @JF
 have q74 := @KJ
 have q75 := @Lr
 have q76 := @L8
 have q77 := @Oq
 have q78 := @PU
 refine Ra hl hf ?_
 rintro g1 s r hl hf
 obtain ⟨v2, h3, k1⟩ := uT k0
 refine Ra hl hf ?_
 rintro g4 s r hl hf
 refine NF r.2.2.1 k1 (fun c5 k1 => ?_) fun c5 k1 => ?_
 ·obtain ⟨v6, h7, k2⟩ := uT k1
  obtain ⟨v8, h9, k3⟩ := uT k2
  have q11 := DY h7
  have q12 := CG h7 rfl rfl
  refine Ra hl hf ?_
  rintro g10 s r hl hf
  obtain ⟨v13, h14, k4⟩ := uT k3
  obtain ⟨v15, h16, k5⟩ := uT k4
  obtain ⟨v17, h18, k6⟩ := uT k5
  obtain ⟨v19, h20, k7⟩ := uT k6
  obtain ⟨v21, h22, k8⟩ := uT k7
  have q24 := DY h14
  have q25 := CG h14 rfl rfl
  have q26 := DY h20
  have q27 := CG h20 rfl rfl
  refine Ra hl hf ?_
  rintro g23 s r hl hf
  obtain ⟨v28, h29, k9⟩ := uT k8
  try clear h16
  obtain ⟨v30, h31, k10⟩ := uT k9
  refine Ra hl hf ?_
  rintro g32 s r hl hf
  obtain ⟨v33, h34, k11⟩ := uT k10
  refine Ra hl hf ?_
  rintro g35 s r hl hf
  obtain ⟨v36, h37, k12⟩ := uT k11
  refine Ra hl hf ?_
  rintro g38 s r hl hf
  obtain ⟨v39, h40, k13⟩ := uT k12
  refine Ra hl hf ?_
  rintro g41 s r hl hf
  refine Ra hl hf ?_
  rintro g42 s r hl hf
  refine NF r.2.2.2.2.2.2.2.2.1 k13 (fun c43 k13 => ?_) fun c43 k13 => ?_
  ·obtain ⟨o58, q, k14⟩ := uT k13
   refine Rq (fun g60 => [B_ 4 o58]) hl hf q ?_
   rintro g60 s r hl hf
   cases oK k14
   exact ⟨Or.inr rfl, hl, AO (AL r.1)⟩
  obtain ⟨o66, q, k15⟩ := uT k13
  refine Rq (fun g68 => [B_ 4 o66]) hl hf q ?_
  rintro g68 s r hl hf
  cases oK k15
  exact ⟨Or.inr rfl, hl, AO (AL r.1)⟩
 obtain ⟨v69, h70, k16⟩ := uT k1
 refine Ra hl hf ?_
 rintro g71 s r hl hf
 cases oK k16
 exact ⟨Or.inr rfl, hl, AO (AL r.1)⟩
def jy := fun a0 a1 => Cq.mk (@Jq a0 a1)
theorem Iz {a0 : BenchBook} {a1 : Int} {r : Bool} (k0 : Fp a0 a1 = some r) : Fin zL 4 [vG.enc a0, .int a1] (.bool r) := by
 unfold Fp at k0; replace k0 := kq k0
 refine vF Gs QX ?_
 rintro low s r hl hf
 have q62 := @RS
 have q63 := @Oi
 have q64 := @JF
 have q65 := @KJ
 have q66 := @Lr
 have q67 := @L8
 have q68 := @Oq
 refine Ra hl hf ?_
 rintro g1 s r hl hf
 obtain ⟨v2, h3, k1⟩ := uT k0
 refine Ra hl hf ?_
 rintro g4 s r hl hf
 obtain ⟨v5, h6, k2⟩ := uT k1
 refine Ra hl hf ?_
 rintro g7 s r hl hf
 refine NF r.2.2.2.2.1 k2 (fun c8 k2 => ?_) fun c8 k2 => ?_
 ·obtain ⟨v9, h10, k3⟩ := uT k2
  refine Ra hl hf ?_
  rintro g11 s r hl hf
  refine Ra hl hf ?_
  rintro g12 s r hl hf
  refine NF r.2.2.2.2.2.2.1 k3 (fun c13 k3 => ?_) fun c13 k3 => ?_
  ·obtain ⟨v14, h15, k4⟩ := uT k3
   refine Ra hl hf ?_
   rintro g16 s r hl hf
   refine Ra hl hf ?_
   rintro g17 s r hl hf
   refine uh ?_
   obtain ⟨o21, l22, k5⟩ := uT k4
   refine A9 (f := CQ v9 v14) (E := fun (x : Bool × Int) s => DW [C_ 2 g1 a0, E_ 5 v2.1, E_ 7 v9.1, I_ 8 v9.2, I_ 9 v14, B_ 10 x.1, I_ 11 x.2] s ∧ s.low = low ∧ uY Gs s) (Q := fun (y20 : Bool) j s => j = .exit 0 ∧ DW [C_ 2 g1 a0, E_ 5 v2.1, I_ 8 v9.2, I_ 9 v14, B_ 10 y20] s ∧ s.low = low ∧ uY Gs s) l22 ?_ ⟨r, hl, hf⟩ ?_
   ·rintro ⟨x18, x19⟩ s out ⟨r, hl, hf⟩ k6
    dsimp only at r
    simp only [CQ] at k6
    refine Ra hl hf ?_
    rintro g23 s r hl hf
    refine E2 r.2.2.2.2.2.2.2.1 k6 (fun c24 k6 => ?_) fun c24 k6 => ?_
    ·refine uh ?_
     obtain ⟨o28, q, k7⟩ := uT k6
     refine Rq (fun g30 => [B_ 10 o28]) hl hf q ?_
     rintro g30 s r hl hf
     refine Ra hl hf ?_
     rintro g31 s r hl hf
     obtain rfl := oK k7
     exact ⟨rfl, r, hl, hf⟩
    obtain rfl := oK k6
    exact ⟨by decide, ⟨rfl, ⟨r.1, r.2.1, r.2.2.2.1, r.2.2.2.2.1, r.2.2.2.2.2.1, trivial⟩, hl, hf⟩⟩
   intro j s hq
   obtain ⟨y20, rfl⟩ : ∃ x, x = o21 := ⟨_, rfl⟩
   try dsimp only at k5 hq
   obtain ⟨rfl, r, hl, hf⟩ := hq
   obtain ⟨o44, q, k8⟩ := uT k5
   refine Rq (fun g46 => [B_ 4 o44]) hl hf q ?_
   rintro g46 s r hl hf
   cases oK k8
   exact ⟨Or.inr rfl, hl, AO (AL r.1)⟩
  obtain ⟨o52, q, k9⟩ := uT k3
  refine Rq (fun g54 => [B_ 4 o52]) hl hf q ?_
  rintro g54 s r hl hf
  cases oK k9
  exact ⟨Or.inr rfl, hl, AO (AL r.1)⟩
 obtain ⟨o59, q, k10⟩ := uT k2
 refine Rq (fun g61 => [B_ 4 o59]) hl hf q ?_
 rintro g61 s r hl hf
 cases oK k10
 exact ⟨Or.inr rfl, hl, AO (AL r.1)⟩
def jZ := fun a0 a1 => Cq.mk (@Iz a0 a1)
theorem YH {a0 : VoiceBook} {a1 : AE} {r : (Bool × Int)} (k0 : Je a0 a1 = some r) : Fin zL 15 [vG.enc a0, vG.enc a1] (vG.enc r) := by
 unfold Je at k0; replace k0 := kq k0
 refine vF b7 dG ?_
 rintro low s r hl hf
 have q24 := @Ot
 have q25 := @FM
 have q26 := @L6
 refine Ra hl hf ?_
 rintro g1 s r hl hf
 obtain ⟨v2, h3, k1⟩ := uT k0
 refine Ra hl hf ?_
 rintro g4 s r hl hf
 refine Ra hl hf ?_
 rintro g5 s r hl hf
 refine NF r.2.2.2.1 k1 (fun c6 k1 => ?_) fun c6 k1 => ?_
 ·obtain ⟨v7, h8, k2⟩ := uT k1
  obtain ⟨v9, h10, k3⟩ := uT k2
  have q12 := @QY
  have q13 := IA (sz := 4) rfl h8
  have q14 := GQ (sz := 4) (x := v7) (y := (Sl.cold [a1] : Sl AE)) rfl rfl h10
  refine Ra hl hf ?_ (h := by intro c; simp only [(QP (eM h10 (by simp))), rt, ps, uD hf, *, reduceCtorEq, Nat.reduceEqDiff, Nat.reduceAdd, Nat.reduceMul] <;> rfl)
  rintro g11 s r hl hf
  obtain ⟨v16, h17, k4⟩ := uT k3
  obtain ⟨v18, h19, k5⟩ := uT k4
  have q21 := @J9
  have q22 := Fin.call (LP := zL) (ds := [vG.enc (VoiceBook.mk a0.Boys a0.Weeks v9), .nils]) (GH h17)
  refine Ra hl hf ?_
  rintro g20 s r hl hf
  cases oK k5
  exact ⟨Or.inr rfl, hl, BJ (AL r.1) (AL r.2.1)⟩
 refine Ra hl hf ?_
 rintro g23 s r hl hf
 cases oK k1
 exact ⟨Or.inr rfl, hl, BJ (AL r.1) (AL r.2.1)⟩
def b9 := fun a0 a1 => Cq.mk (@YH a0 a1)
theorem DD {a0 : (Sl Int)} {r : Int} (k0 : FY a0 = some r) : Fin zL 17 [vG.enc a0] (.int r) := by
 unfold FY at k0; replace k0 := kq k0
 refine vF JI XA ?_
 rintro low s r hl hf
 have q27 := @LY
 refine Ra hl hf ?_
 rintro g1 s r hl hf
 refine Ra hl hf ?_
 rintro g2 s r hl hf
 refine Ra hl hf ?_
 rintro g3 s r hl hf
 refine uh ?_
 obtain ⟨o7, l8, k1⟩ := uT k0
 refine A9 (f := Dw a0) (E := fun (x : Int × Int) s => DW [E_ 0 a0, I_ 3 x.1, I_ 4 x.2] s ∧ s.low = low ∧ uY JI s) (Q := fun (y6 : Int) j s => j = .exit 0 ∧ DW [I_ 3 y6] s ∧ s.low = low ∧ uY JI s) l8 ?_ ⟨r, hl, hf⟩ ?_
 ·rintro ⟨x4, x5⟩ s out ⟨r, hl, hf⟩ k2
  dsimp only at r
  simp only [Dw] at k2
  refine Ra hl hf ?_
  rintro g9 s r hl hf
  refine E2 r.2.2.2.1 k2 (fun c10 k2 => ?_) fun c10 k2 => ?_
  ·refine uh ?_
   obtain ⟨v11, h12, k3⟩ := uT k2
   refine Ra hl hf ?_
   rintro g13 s r hl hf
   refine E2 r.2.2.2.1 k3 (fun c14 k3 => ?_) fun c14 k3 => ?_
   ·obtain ⟨v15, h16, k4⟩ := uT k3
    try clear h12
    obtain ⟨v17, h18, k5⟩ := uT k4
    obtain ⟨v19, h20, k6⟩ := uT k5
    have q22 := M8 h18
    have q23 := M8 h20
    refine Ra hl hf ?_
    rintro g21 s r hl hf
    refine Ra hl hf ?_
    rintro g24 s r hl hf
    obtain rfl := oK k6
    exact ⟨rfl, r, hl, hf⟩
   refine Ra hl hf ?_
   rintro g25 s r hl hf
   obtain rfl := oK k3
   exact ⟨rfl, r, hl, hf⟩
  obtain rfl := oK k2
  exact ⟨by decide, ⟨rfl, ⟨r.2.1, trivial⟩, hl, hf⟩⟩
 intro j s hq
 obtain ⟨y6, rfl⟩ : ∃ x, x = o7 := ⟨_, rfl⟩
 try dsimp only at k1 hq
 obtain ⟨rfl, r, hl, hf⟩ := hq
 refine Ra hl hf ?_
 rintro g26 s r hl hf
 cases oK k1
 exact ⟨Or.inr rfl, hl, AO (AL r.1)⟩
def WW := fun a0 => Cq.mk (@DD a0)
theorem H9 {a0 : BenchBook} {a1 : AE} {a2 : (Ar 2 Int)} {r : Bool} (k0 : FA a0 a1 a2 = some r) : Fin zL 5 [vG.enc a0, vG.enc a1, vG.enc a2] (.bool r) := by
 unfold FA at k0; replace k0 := kq k0
 refine vF PT PV ?_
 rintro low s r hl hf
 have q94 := @OD
 have q95 := @NQ
 have q96 := @JF
 have q97 := @KJ
 have q98 := @WW
 have q99 := @L8
 have q100 := @b9
 refine Ra hl hf ?_
 rintro g1 s r hl hf
 obtain ⟨o5, q, k1⟩ := uT k0
 refine Rq (fun g7 => [B_ 31 o5]) hl hf q ?_
 rintro g7 s r hl hf
 refine E2 r.2.2.2.1 k1 (fun c8 k1 => ?_) fun c8 k1 => ?_
 ·obtain ⟨v9, h10, k2⟩ := uT k1
  refine Ra hl hf ?_
  rintro g11 s r hl hf
  cases oK k2
  exact ⟨Or.inr rfl, hl, AO (AL r.1)⟩
 refine Ra hl hf ?_
 rintro g12 s r hl hf
 obtain ⟨v13, h14, k3⟩ := uT k1
 obtain ⟨v15, h16, k4⟩ := uT k3
 have q18 := @QY
 have q19 := @Qn
 have q20 := GQ (sz := 4) (x := (Sl.hot [] : Sl AE)) (y := a0.Voice.Trials) rfl rfl h14
 have q21 := GQ (sz := 4) (x := v13) (y := (Sl.cold [a1] : Sl AE)) rfl rfl h16
 refine Ra hl hf ?_ (h := by intro c; simp only [(Qv (eM h16 (by simp))), rt, ps, uD hf, *, reduceCtorEq, Nat.reduceEqDiff, Nat.reduceAdd, Nat.reduceMul] <;> rfl)
 rintro g17 s r hl hf
 obtain ⟨v23, h24, k5⟩ := uT k4
 refine Ra hl hf ?_
 rintro g25 s r hl hf
 refine Rx (fun g28 => [B_ 56 (if (decide (v23.2 = 0)) then (!v23.1) else true)]) hl hf ?_
 rintro g28 s r hl hf
 refine E2 r.2.2.2.1 k5 (fun u6 k5 => ?_) fun u6 k5 => ?_
 ·obtain ⟨v30, h31, k6⟩ := uT k5
  have q33 := @D7
  refine Ra hl hf ?_
  rintro g32 s r hl hf
  obtain ⟨o40, q, k7⟩ := uT k6
  try clear h10
  refine Rq (fun g42 => [B_ 6 o40]) hl hf q ?_
  rintro g42 s r hl hf
  cases oK k7
  exact ⟨Or.inr rfl, hl, AO (AL r.1)⟩
 obtain ⟨v43, h44, k8⟩ := uT k5
 obtain ⟨v45, h46, k9⟩ := uT k8
 have q48 := DY h44
 have q49 := CG h44 rfl rfl
 refine Ra hl hf ?_
 rintro g47 s r hl hf
 obtain ⟨v50, h51, k10⟩ := uT k9
 obtain ⟨v52, h53, k11⟩ := uT k10
 obtain ⟨v54, h55, k12⟩ := uT k11
 have q57 := DY h51
 have q58 := CG h51 rfl rfl
 refine Ra hl hf ?_
 rintro g56 s r hl hf
 obtain ⟨v59, h60, k13⟩ := uT k12
 refine Ra hl hf ?_
 rintro g61 s r hl hf
 obtain ⟨v62, h63, k14⟩ := uT k13
 have q65 := @D7
 refine Ra hl hf ?_
 rintro g64 s r hl hf
 obtain ⟨v66, h67, k15⟩ := uT k14
 refine Ra hl hf ?_
 rintro g68 s r hl hf
 obtain ⟨v69, h70, k16⟩ := uT k15
 try clear h31
 have q72 := @D7
 refine Ra hl hf ?_
 rintro g71 s r hl hf
 obtain ⟨o87, q88, k17⟩ := uT k16
 refine gY [B_ 6 o87] hl hf ?_ ?_
 ·by_cases c73 : (decide (v59.2 = 0)) = true
  ·rw [if_pos c73] at q88
   by_cases c74 : (decide (v62.2 = 0)) = true
   ·rw [if_pos c74] at q88
    by_cases c75 : (decide (v66.2 = 0)) = true
    ·rw [if_pos c75] at q88
     by_cases c76 : (decide (v69.2 = 0)) = true
     ·rw [if_pos c76] at q88
      obtain ⟨v77, h78, q90⟩ := t3 q88
      obtain ⟨v79, h80, q91⟩ := t3 q90
      obtain ⟨v81, h82, q92⟩ := t3 q91
      by_cases c83 : (decide (v81 = 0)) = true
      ·rw [if_pos c83] at q92
       by_cases c84 : (decide (v69.1.len ≤ v66.1.len)) = true
       ·rw [if_pos c84] at q92
        obtain ⟨v85, h86, q93⟩ := t3 q92
        have e1 := oI q93
        simp only [rs, I3, hl, uD hf, r, c73, c74, c75, c76, (DD h78).call, (DD h80).call, (M8 h82), c83, c84, (LI h86).call, ← e1, reduceCtorEq, Nat.reduceEqDiff, Nat.reduceAdd]
       rw [if_neg c84] at q92
       have c84 := eq_false_of_ne_true c84
       have e1 := oI q92
       simp only [rs, I3, hl, uD hf, r, c73, c74, c75, c76, (DD h78).call, (DD h80).call, (M8 h82), c83, c84, ← e1, reduceCtorEq, Nat.reduceEqDiff, Nat.reduceAdd]
      rw [if_neg c83] at q92
      have c83 := eq_false_of_ne_true c83
      have e1 := oI q92
      simp only [rs, I3, hl, uD hf, r, c73, c74, c75, c76, (DD h78).call, (DD h80).call, (M8 h82), c83, ← e1, reduceCtorEq, Nat.reduceEqDiff, Nat.reduceAdd]
     rw [if_neg c76] at q88
     have c76 := eq_false_of_ne_true c76
     have e1 := oI q88
     simp only [rs, I3, hl, uD hf, r, c73, c74, c75, c76, ← e1, reduceCtorEq, Nat.reduceEqDiff, Nat.reduceAdd]
    rw [if_neg c75] at q88
    have c75 := eq_false_of_ne_true c75
    have e1 := oI q88
    simp only [rs, I3, hl, uD hf, r, c73, c74, c75, ← e1, reduceCtorEq, Nat.reduceEqDiff, Nat.reduceAdd]
   rw [if_neg c74] at q88
   have c74 := eq_false_of_ne_true c74
   have e1 := oI q88
   simp only [rs, I3, hl, uD hf, r, c73, c74, ← e1, reduceCtorEq, Nat.reduceEqDiff, Nat.reduceAdd]
  rw [if_neg c73] at q88
  have c73 := eq_false_of_ne_true c73
  have e1 := oI q88
  simp only [rs, I3, hl, uD hf, r, c73, ← e1, reduceCtorEq, Nat.reduceEqDiff, Nat.reduceAdd]
 rintro s r hl hf
 cases oK k17
 exact ⟨Or.inr rfl, hl, AO (AL r.1)⟩
def iM := fun a0 a1 a2 => Cq.mk (@H9 a0 a1 a2)
end Go.Lf
