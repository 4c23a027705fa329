/- A part of the proof. -/
import Derived.Test.YtpkbckdhkaggbaaDoorx27
import Derived.Test.YtpkbckdhkaggbaaDoorx29
set_option linter.all false
set_option maxHeartbeats 9999999
namespace Go.Lf
open Go
theorem H8 (a0 : Int) (a1 : Int) (a2 : Int) : Fin zL 49 [.int a0, .int a1, .int a2] (.bool (Ad a0 a1 a2)) := by
 refine vF V8 Vi ?_
 rintro low s r hl hf
 refine Ra hl hf ?_
 rintro g1 s r hl hf
 refine Rx (fun g4 => [B_ 6 ((decide (a1 ≤ a0)) && (decide (a0 ≤ a2)))]) hl hf ?_
 rintro g4 s r hl hf
 exact ⟨Or.inr rfl, hl, AO (AL r.1)⟩
def Dn := fun a0 a1 a2 => (H8 a0 a1 a2).call
theorem Tn (a0 : Ec) (a1 : Int) (a2 : Int) : Fin zL 50 [vG.enc a0, .int a1, .int a2] (.bool (Ap a0 a1 a2)) := by
 refine vF W2 WY ?_
 rintro low s r hl hf
 refine Ra hl hf ?_
 rintro g1 s r hl hf
 refine Rx (fun g6 => [B_ 6 ((decide (0 ≤ a0.Low)) && ((decide (a0.Low ≤ a0.High)) && ((decide (a0.High ≤ a1)) && (decide ((W (a0.High - a0.Low)) ≤ a2)))))]) hl hf ?_
 rintro g6 s r hl hf
 exact ⟨Or.inr rfl, hl, AO (AL r.1)⟩
def Vk := fun a0 a1 a2 => (Tn a0 a1 a2).call
theorem Wl (a0 : VoiceBook) (a1 : Int) : Fin zL 37 [vG.enc a0, .int a1] (.bool (EC a0 a1)) := by
 refine vF Zj ZK ?_
 rintro low s r hl hf
 have q3 := @Dn
 refine Ra hl hf ?_
 rintro g1 s r hl hf
 refine Ra hl hf ?_
 rintro g2 s r hl hf
 exact ⟨Or.inr rfl, hl, AO (AL r.1)⟩
def QD := fun a0 a1 => (Wl a0 a1).call
theorem Tq (a0 : VoiceBook) (a1 : Int) : Fin zL 38 [vG.enc a0, .int a1] (.bool (Dk a0 a1)) := by
 refine vF V0 V5 ?_
 rintro low s r hl hf
 have q3 := @Dn
 refine Ra hl hf ?_
 rintro g1 s r hl hf
 refine Ra hl hf ?_
 rintro g2 s r hl hf
 exact ⟨Or.inr rfl, hl, AO (AL r.1)⟩
def NR := fun a0 a1 => (Tq a0 a1).call
theorem TW (a0 : Int) : Fin zL 39 [.int a0] (.bool (C4 a0)) := by
 refine vF Vo Vq ?_
 rintro low s r hl hf
 have q3 := @Dn
 refine Ra hl hf ?_
 rintro g1 s r hl hf
 refine Ra hl hf ?_
 rintro g2 s r hl hf
 exact ⟨Or.inr rfl, hl, AO (AL r.1)⟩
def Nk := fun a0 => (TW a0).call
theorem SA (a0 : VoiceBook) (a1 : AE) : Fin zL 46 [vG.enc a0, vG.enc a1] (.bool (BB a0 a1)) := by
 refine vF UP UT ?_
 rintro low s r hl hf
 have q7 := @QD
 have q8 := @Nk
 have q9 := @NR
 have q10 := @Dn
 refine Ra hl hf ?_
 rintro g1 s r hl hf
 refine Rx (fun g6 => [B_ 4 ((EC a0 a1.Boy) && ((Dk a0 a1.Week) && ((C4 a1.Note) && (Ad a1.Sang 0 1))))]) hl hf ?_
 rintro g6 s r hl hf
 exact ⟨Or.inr rfl, hl, AO (AL r.1)⟩
def L6 := fun a0 a1 => (SA a0 a1).call
theorem V3 {a0 : VoiceBook} {r : Int} (k0 : EB a0 = some r) : Fin zL 19 [vG.enc a0] (.int r) := by
 unfold EB at k0; replace k0 := kq k0
 refine vF GU Y7 ?_
 rintro low s r hl hf
 have q49 := @Vk
 have q50 := @L6
 have q51 := @Dn
 refine Ra hl hf ?_
 rintro g1 s r hl hf
 refine Rx (fun g5 => [B_ 3 ((Ad a0.Boys.len 1 4) && ((Ad a0.Weeks 1 6) && (decide (a0.Trials.len ≤ 6))))]) hl hf ?_
 rintro g5 s r hl hf
 refine Ra hl hf ?_
 rintro g6 s r hl hf
 refine uh ?_
 obtain ⟨uo, l11, k1⟩ := uT k0
 refine A9 (f := EN a0) (E := fun (x : Bool × Int) s => DW [C_ 1 g1 a0, B_ 3 x.1, E_ 24 a0.Boys, I_ 25 a0.Boys.len, I_ 26 x.2] s ∧ s.low = low ∧ uY GU s) (Q := fun (y9 : Bool) j s => j = .exit 0 ∧ DW [C_ 1 g1 a0, B_ 3 y9] s ∧ s.low = low ∧ uY GU s) l11 ?_ ⟨r, hl, hf⟩ ?_
 ·rintro ⟨x7, x8⟩ s out ⟨r, hl, hf⟩ k2
  dsimp only at r
  simp only [EN] at k2
  refine Ra hl hf ?_
  rintro g12 s r hl hf
  refine E2 r.2.2.2.2.2.1 k2 (fun c13 k2 => ?_) fun c13 k2 => ?_
  ·refine uh ?_
   obtain ⟨v14, h15, k3⟩ := uT k2
   refine Ra hl hf ?_
   rintro g16 s r hl hf
   refine Rx (fun g20 => [B_ 3 (x7 && ((Ap v14.Low 40 2) && (Ap v14.High 40 2)))]) hl hf ?_
   rintro g20 s r hl hf
   refine Rx (fun g24 => [B_ 3 ((x7 && ((Ap v14.Low 40 2) && (Ap v14.High 40 2))) && ((Ap v14.Gain 2 1) && (Ad v14.Loss 0 2)))]) hl hf ?_
   rintro g24 s r hl hf
   refine Rx (fun g28 => [B_ 3 (((x7 && ((Ap v14.Low 40 2) && (Ap v14.High 40 2))) && ((Ap v14.Gain 2 1) && (Ad v14.Loss 0 2))) && ((Ap v14.Turn 6 2) && (Ap v14.Break 9 3)))]) hl hf ?_
   rintro g28 s r hl hf
   refine Ra hl hf ?_
   rintro g29 s r hl hf
   obtain rfl := oK k3
   exact ⟨rfl, r, hl, hf⟩
  obtain rfl := oK k2
  exact ⟨by decide, ⟨rfl, ⟨r.1, r.2.1, trivial⟩, hl, hf⟩⟩
 intro j s hq
 obtain ⟨y9, rfl⟩ : ∃ x, x = uo := ⟨_, rfl⟩
 try dsimp only at k1 hq
 obtain ⟨rfl, r, hl, hf⟩ := hq
 refine Ra hl hf ?_
 rintro g30 s r hl hf
 refine uh ?_
 obtain ⟨o34, l35, k4⟩ := uT k1
 refine A9 (f := EP a0) (E := fun (x : Bool × Int) s => DW [C_ 1 g1 a0, B_ 3 x.1, E_ 65 a0.Trials, I_ 66 a0.Trials.len, I_ 67 x.2] s ∧ s.low = low ∧ uY GU s) (Q := fun (y33 : Bool) j s => j = .exit 2 ∧ DW [C_ 1 g1 a0, B_ 3 y33] s ∧ s.low = low ∧ uY GU s) l35 ?_ ⟨r, hl, hf⟩ ?_
 ·rintro ⟨x31, x32⟩ s out ⟨r, hl, hf⟩ k5
  dsimp only at r
  simp only [EP] at k5
  refine Ra hl hf ?_
  rintro g36 s r hl hf
  refine E2 r.2.2.2.2.2.1 k5 (fun uG k5 => ?_) fun uG k5 => ?_
  ·refine uh ?_
   obtain ⟨v38, h39, k6⟩ := uT k5
   refine Ra hl hf ?_
   rintro g40 s r hl hf
   refine Rx (fun g43 => [B_ 3 (x31 && (BB a0 v38))]) hl hf ?_
   rintro g43 s r hl hf
   refine Ra hl hf ?_
   rintro g44 s r hl hf
   obtain rfl := oK k6
   exact ⟨rfl, r, hl, hf⟩
  obtain rfl := oK k5
  exact ⟨by decide, ⟨rfl, ⟨r.1, r.2.1, trivial⟩, hl, hf⟩⟩
 intro j s hq
 obtain ⟨y33, rfl⟩ : ∃ x, x = o34 := ⟨_, rfl⟩
 try dsimp only at k4 hq
 obtain ⟨rfl, r, hl, hf⟩ := hq
 refine Ra hl hf ?_
 rintro g45 s r hl hf
 refine NF r.1 k4 (fun c46 k4 => ?_) fun c46 k4 => ?_
 ·refine Ra hl hf ?_
  rintro g47 s r hl hf
  cases oK k4
  exact ⟨Or.inr rfl, hl, AO (AL r.1)⟩
 refine Ra hl hf ?_
 rintro g48 s r hl hf
 cases oK k4
 exact ⟨Or.inr rfl, hl, AO (AL r.1)⟩
def Hn := fun a0 => Cq.mk (@V3 a0)
theorem VE (a0 : Int) (a1 : Int) (a2 : Int) : Fin zL 35 [.int a0, .int a1, .int a2] (.bool (AV a0 a1 a2)) := by
 refine vF Wu WR ?_
 rintro low s r hl hf
 refine Ra hl hf ?_
 rintro g1 s r hl hf
 refine Rx (fun g4 => [B_ 6 ((decide (a1 ≤ a0)) && (decide (a0 ≤ a2)))]) hl hf ?_
 rintro g4 s r hl hf
 exact ⟨Or.inr rfl, hl, AO (AL r.1)⟩
def JK := fun a0 a1 a2 => (VE a0 a1 a2).call
theorem WG {a0 : BenchBook} {r : Int} (k0 : Gw a0 = some r) : Fin zL 18 [vG.enc a0] (.int r) := by
 unfold Gw at k0; replace k0 := kq k0
 refine vF F4 Zq ?_
 rintro low s r hl hf
 have q46 := @JK
 have q47 := @Hn
 refine Ra hl hf ?_
 rintro g1 s r hl hf
 obtain ⟨o6, q, k1⟩ := uT k0
 refine Rq (fun g8 => [B_ 3 o6]) hl hf q ?_
 rintro g8 s r hl hf
 refine Ra hl hf ?_
 rintro g9 s r hl hf
 refine uh ?_
 obtain ⟨uJ, l14, k2⟩ := uT k1
 refine A9 (f := ER a0) (E := fun (x : Bool × Int) s => DW [C_ 1 g1 a0, B_ 3 x.1, E_ 24 a0.Pieces, I_ 25 a0.Pieces.len, I_ 26 x.2] s ∧ s.low = low ∧ uY F4 s) (Q := fun (y12 : Bool) j s => j = .exit 0 ∧ DW [C_ 1 g1 a0, B_ 3 y12] s ∧ s.low = low ∧ uY F4 s) l14 ?_ ⟨r, hl, hf⟩ ?_
 ·rintro ⟨x10, x11⟩ s out ⟨r, hl, hf⟩ k3
  dsimp only at r
  simp only [ER] at k3
  refine Ra hl hf ?_
  rintro g15 s r hl hf
  refine E2 r.2.2.2.2.2.1 k3 (fun c16 k3 => ?_) fun c16 k3 => ?_
  ·refine uh ?_
   obtain ⟨v17, h18, k4⟩ := uT k3
   refine Ra hl hf ?_
   rintro g19 s r hl hf
   refine Rx (fun g23 => [B_ 3 (x10 && ((AV v17.Week 0 (W (a0.Voice.Weeks - 1))) && (AV v17.Parts.len 1 3)))]) hl hf ?_
   rintro g23 s r hl hf
   refine Ra hl hf ?_
   rintro g24 s r hl hf
   refine uh ?_
   obtain ⟨o28, l29, k5⟩ := uT k4
   refine A9 (f := ET v17) (E := fun (x : Bool × Int) s => DW [C_ 1 g1 a0, B_ 3 x.1, E_ 24 a0.Pieces, I_ 25 a0.Pieces.len, I_ 26 x11, E_ 47 v17.Parts, I_ 48 v17.Parts.len, I_ 49 x.2] s ∧ s.low = low ∧ uY F4 s) (Q := fun (y27 : Bool) j s => j = .exit 2 ∧ DW [C_ 1 g1 a0, B_ 3 y27, E_ 24 a0.Pieces, I_ 25 a0.Pieces.len, I_ 26 x11] s ∧ s.low = low ∧ uY F4 s) l29 ?_ ⟨r, hl, hf⟩ ?_
   ·rintro ⟨x25, x26⟩ s out ⟨r, hl, hf⟩ k6
    dsimp only at r
    simp only [ET] at k6
    refine Ra hl hf ?_
    rintro g30 s r hl hf
    refine E2 r.2.2.2.2.2.2.2.2.1 k6 (fun c31 k6 => ?_) fun c31 k6 => ?_
    ·refine uh ?_
     obtain ⟨v32, h33, k7⟩ := uT k6
     refine Ra hl hf ?_
     rintro g34 s r hl hf
     refine Rx (fun g39 => [B_ 3 (x25 && ((AV v32.Notes.Low 0 v32.Notes.High) && ((decide (v32.Notes.High ≤ 40)) && (AV v32.Many 1 3))))]) hl hf ?_
     rintro g39 s r hl hf
     refine Ra hl hf ?_
     rintro g40 s r hl hf
     obtain rfl := oK k7
     exact ⟨rfl, r, hl, hf⟩
    obtain rfl := oK k6
    exact ⟨by decide, ⟨rfl, ⟨r.1, r.2.1, r.2.2.1, r.2.2.2.1, r.2.2.2.2.1, trivial⟩, hl, hf⟩⟩
   intro j s hq
   obtain ⟨y27, rfl⟩ : ∃ x, x = o28 := ⟨_, rfl⟩
   try dsimp only at k5 hq
   obtain ⟨rfl, r, hl, hf⟩ := hq
   refine Ra hl hf ?_
   rintro g41 s r hl hf
   obtain rfl := oK k5
   exact ⟨rfl, r, hl, hf⟩
  obtain rfl := oK k3
  exact ⟨by decide, ⟨rfl, ⟨r.1, r.2.1, trivial⟩, hl, hf⟩⟩
 intro j s hq
 obtain ⟨y12, rfl⟩ : ∃ x, x = uJ := ⟨_, rfl⟩
 try dsimp only at k2 hq
 obtain ⟨rfl, r, hl, hf⟩ := hq
 refine Ra hl hf ?_
 rintro g42 s r hl hf
 refine NF r.1 k2 (fun c43 k2 => ?_) fun c43 k2 => ?_
 ·refine Ra hl hf ?_
  rintro g44 s r hl hf
  cases oK k2
  exact ⟨Or.inr rfl, hl, AO (AL r.1)⟩
 refine Ra hl hf ?_
 rintro g45 s r hl hf
 cases oK k2
 exact ⟨Or.inr rfl, hl, AO (AL r.1)⟩
def QG := fun a0 => Cq.mk (@WG a0)
theorem YX (a0 : Int) (a1 : Int) (a2 : Int) : Fin zL 20 [.int a0, .int a1, .int a2] (.bool (Aj a0 a1 a2)) := by
 refine vF bn cR ?_
 rintro low s r hl hf
 refine Ra hl hf ?_
 rintro g1 s r hl hf
 refine Rx (fun g4 => [B_ 6 ((decide (a1 ≤ a0)) && (decide (a0 ≤ a2)))]) hl hf ?_
 rintro g4 s r hl hf
 exact ⟨Or.inr rfl, hl, AO (AL r.1)⟩
def LY := fun a0 a1 a2 => (YX a0 a1 a2).call
theorem Yp (a0 : Ec) (a1 : Int) (a2 : Int) (a3 : Int) : Fin zL 21 [vG.enc a0, .int a1, .int a2, .int a3] (.bool (H2 a0 a1 a2 a3)) := by
 refine vF ay dT ?_
 rintro low s r hl hf
 refine Ra hl hf ?_
 rintro g1 s r hl hf
 refine Rx (fun g6 => [B_ 8 ((decide (a1 ≤ a0.Low)) && ((decide (a0.Low ≤ a0.High)) && ((decide (a0.High ≤ a2)) && (decide ((W (a0.High - a0.Low)) ≤ a3)))))]) hl hf ?_
 rintro g6 s r hl hf
 exact ⟨Or.inr rfl, hl, AO (AL r.1)⟩
def ah := fun a0 a1 a2 a3 => (Yp a0 a1 a2 a3).call
theorem WC {a0 : BenchBook} {r : Bool} (k0 : FK a0 = some r) : Fin zL 6 [vG.enc a0] (.bool r) := by
 unfold FK at k0; replace k0 := kq k0
 refine vF F7 Zc ?_
 rintro low s r hl hf
 have q50 := @QG
 have q51 := @ah
 have q52 := @LY
 have q53 := @Hn
 refine Ra hl hf ?_
 rintro g1 s r hl hf
 obtain ⟨uW, q, k1⟩ := uT k0
 refine Rq (fun g14 => [B_ 3 uW]) hl hf q ?_
 rintro g14 s r hl hf
 refine Ra hl hf ?_
 rintro g15 s r hl hf
 refine uh ?_
 obtain ⟨o19, l20, k2⟩ := uT k1
 refine A9 (f := Dq a0) (E := fun (x : Bool × Int) s => DW [C_ 1 g1 a0, B_ 3 x.1, I_ 4 x.2] s ∧ s.low = low ∧ uY F7 s) (Q := fun (y18 : Bool) j s => j = .exit 0 ∧ DW [C_ 1 g1 a0, B_ 3 y18] s ∧ s.low = low ∧ uY F7 s) l20 ?_ ⟨r, hl, hf⟩ ?_
 ·rintro ⟨x16, x17⟩ s out ⟨r, hl, hf⟩ k3
  dsimp only at r
  simp only [Dq] at k3
  refine Rx (fun g23 => [B_ 54 (x16 && (decide (x17 < a0.Pieces.len)))]) hl hf ?_
  rintro g23 s r hl hf
  refine E2 r.2.2.2.1 k3 (fun c24 k3 => ?_) fun c24 k3 => ?_
  ·refine uh ?_
   obtain ⟨v25, h26, k4⟩ := uT k3
   refine Ra hl hf ?_
   rintro g27 s r hl hf
   refine Rx (fun g30 => [B_ 3 ((Aj v25.Week 0 (W (a0.Voice.Weeks - 1))) && (Aj v25.Parts.len 1 3))]) hl hf ?_
   rintro g30 s r hl hf
   refine Ra hl hf ?_
   rintro g31 s r hl hf
   refine uh ?_
   obtain ⟨o35, l36, k5⟩ := uT k4
   refine A9 (f := Dp v25) (E := fun (x : Bool × Int) s => DW [C_ 1 g1 a0, B_ 3 x.1, I_ 4 x17, C_ 5 (g27 + 1 + 1 + 1 + 1 + 1) v25, I_ 6 x.2] s ∧ s.low = low ∧ uY F7 s) (Q := fun (y34 : Bool) j s => j = .exit 2 ∧ DW [C_ 1 g1 a0, B_ 3 y34, I_ 4 x17, C_ 5 (g27 + 1 + 1 + 1 + 1 + 1) v25] s ∧ s.low = low ∧ uY F7 s) l36 ?_ ⟨r, hl, hf⟩ ?_
   ·rintro ⟨x32, x33⟩ s out ⟨r, hl, hf⟩ k6
    dsimp only at r
    simp only [Dp] at k6
    refine Rx (fun g39 => [B_ 82 (x32 && (decide (x33 < v25.Parts.len)))]) hl hf ?_
    rintro g39 s r hl hf
    refine E2 r.2.2.2.2.2.1 k6 (fun c40 k6 => ?_) fun c40 k6 => ?_
    ·refine uh ?_
     obtain ⟨o44, q, k7⟩ := uT k6
     refine Rq (fun g46 => [B_ 3 o44]) hl hf q ?_
     rintro g46 s r hl hf
     refine Ra hl hf ?_
     rintro g47 s r hl hf
     obtain rfl := oK k7
     exact ⟨rfl, r, hl, hf⟩
    obtain rfl := oK k6
    exact ⟨by decide, ⟨rfl, ⟨r.1, r.2.1, r.2.2.1, r.2.2.2.1, trivial⟩, hl, hf⟩⟩
   intro j s hq
   obtain ⟨y34, rfl⟩ : ∃ x, x = o35 := ⟨_, rfl⟩
   try dsimp only at k5 hq
   obtain ⟨rfl, r, hl, hf⟩ := hq
   refine Ra hl hf ?_
   rintro g48 s r hl hf
   obtain rfl := oK k5
   exact ⟨rfl, r, hl, hf⟩
  obtain rfl := oK k3
  exact ⟨by decide, ⟨rfl, ⟨r.1, r.2.1, trivial⟩, hl, hf⟩⟩
 intro j s hq
 obtain ⟨y18, rfl⟩ : ∃ x, x = o19 := ⟨_, rfl⟩
 try dsimp only at k2 hq
 obtain ⟨rfl, r, hl, hf⟩ := hq
 refine Ra hl hf ?_
 rintro g49 s r hl hf
 cases oK k2
 exact ⟨Or.inr rfl, hl, AO (AL r.1)⟩
def KJ := fun a0 => Cq.mk (@WC a0)
theorem Zs {a0 : Int} {a1 : Int} {r : Int} (k0 : ES a0 a1 = some r) : Fin zL 8 [.int a0, .int a1] (.int r) := by
 unfold ES at k0; replace k0 := kq k0
 refine vF dS bV ?_
 rintro low s r hl hf
 refine Ra hl hf ?_
 rintro g1 s r hl hf
 refine Ra hl hf ?_
 rintro g2 s r hl hf
 refine E2 r.2.2.1 k0 (fun c3 k0 => ?_) fun c3 k0 => ?_
 ·refine Ra hl hf ?_
  rintro g4 s r hl hf
  cases oK k0
  exact ⟨Or.inr rfl, hl, AO (AL r.1)⟩
 obtain ⟨v5, h6, k1⟩ := uT k0
 have q8 := M8 h6
 refine Ra hl hf ?_
 rintro g7 s r hl hf
 refine Ra hl hf ?_
 rintro g9 s r hl hf
 refine E2 r.2.2.1 k1 (fun c10 k1 => ?_) fun c10 k1 => ?_
 ·refine Ra hl hf ?_
  rintro g11 s r hl hf
  refine Ra hl hf ?_
  rintro g12 s r hl hf
  cases oK k1
  exact ⟨Or.inr rfl, hl, AO (AL r.1)⟩
 refine Ra hl hf ?_
 rintro g13 s r hl hf
 cases oK k1
 exact ⟨Or.inr rfl, hl, AO (AL r.1)⟩
def L8 := fun a0 a1 => Cq.mk (@Zs a0 a1)
theorem SQ (a0 : BenchBook) (a1 : Int) : Fin zL 34 [vG.enc a0, .int a1] (.bool (An a0 a1)) := by
 refine vF UZ UQ ?_
 rintro low s r hl hf
 have q3 := @JK
 refine Ra hl hf ?_
 rintro g1 s r hl hf
 refine Ra hl hf ?_
 rintro g2 s r hl hf
 exact ⟨Or.inr rfl, hl, AO (AL r.1)⟩
def IT := fun a0 a1 => (SQ a0 a1).call
theorem K8 {low : List Fr} (a0 : AA) (a1 : Int) (a2 : (Sl Int)) {wja0 : Nat} {wta0 : Nat} {wga0 : Nat} (hwa0 : wja0 < low.length) : JO zL 62 [.agg (AA.lc a0 wja0 wta0 wga0), .d (.int a1), .d (vG.enc a2)] low (.fn 76 [] [.fptr (AA.lc a0 wja0 wta0 wga0) 0, .d (.fptr [.int a1] 0), .d (.fptr [vG.enc a2] 0)]) := by
 refine en Oa OC ?_
 rintro s r hl hf
 have q2 := @Et
 refine Ra hl hf ?_
 rintro g1 s r hl hf
 refine Ra hl hf ?_
 rintro g3 s r hl hf
 exact ⟨Or.inr rfl, hl, lb (by simp only [bW, r, Ej, HJ, Lt, hl]; simp only [rF, sq, oD, pE, Xx, Z9, ff, gB, dL, Xb, Yx, Of, O3, P0, S9, iU, NB, XZ, QE, Option.map_some, Option.map_none, AA.lc, dB (show uI.get 3 s.env = _ from r.1), dB (show uI.get 4 s.env = _ from r.2.1), dB (show uI.get 5 s.env = _ from r.2.2.1), nE hwa0])⟩
theorem UB {a0 : (Sl Int)} {a1 : Int} {r : Int} (k0 : HB a0 a1 = some r) : Fin zL 83 [vG.enc a0, .int a1] (.int r) := by
 unfold HB at k0; replace k0 := kq k0
 refine vF I6 NK ?_
 rintro low s r hl hf
 refine Ra hl hf ?_
 rintro g1 s r hl hf
 refine Ra hl hf ?_
 rintro g2 s r hl hf
 refine uh ?_
 obtain ⟨o5, l6, k1⟩ := uT k0
 refine A9 (f := BF a0 a1) (E := fun (x : Int) s => DW [E_ 0 a0, I_ 1 a1, I_ 7 a0.len, I_ 8 x] s ∧ s.low = low ∧ uY I6 s) (Q := fun (o : ((Int) ⊕ (Unit))) j s => match o with | .inl w4 => j = .ret ∧ ul NK.1 low (.d (.int w4)) .ret s | .inr _ => j = .exit 0 ∧ DW [] s ∧ s.low = low ∧ uY I6 s) l6 ?_ ⟨r, hl, hf⟩ ?_
 ·rintro x3 s out ⟨r, hl, hf⟩ k2
  unfold BF at k2
  refine Ra hl hf ?_
  rintro g7 s r hl hf
  refine E2 r.2.2.2.2.1 k2 (fun c8 k2 => ?_) fun c8 k2 => ?_
  ·refine uh <| Ra hl hf ?_
   rintro g9 s r hl hf
   obtain ⟨v10, h11, k3⟩ := uT k2
   refine Ra hl hf ?_
   rintro g12 s r hl hf
   refine E2 r.2.2.2.2.2.1 k3 (fun c13 k3 => ?_) fun c13 k3 => ?_
   ·refine Ra hl hf ?_
    rintro g14 s r hl hf
    obtain rfl := oK k3
    exact ⟨by decide, ⟨rfl, ⟨Or.inr rfl, hl, AO (AL r.1)⟩⟩⟩
   refine Ra hl hf ?_
   rintro g15 s r hl hf
   obtain rfl := oK k3
   exact ⟨rfl, r, hl, hf⟩
  obtain rfl := oK k2
  exact ⟨by decide, ⟨rfl, trivial, hl, hf⟩⟩
 intro j s hq
 rcases o5 with w4 | _
 ·try dsimp only at k1 hq
  obtain ⟨rfl, hq⟩ := hq
  cases oK k1
  exact hq
 try dsimp only at k1 hq
 obtain ⟨rfl, -, hl, hf⟩ := hq
 refine Ra hl hf ?_
 rintro g16 s r hl hf
 cases oK k1
 exact ⟨Or.inr rfl, hl, AO (AL r.1)⟩
def Wg := fun a0 a1 => Cq.mk (@UB a0 a1)
theorem GE {a0 : (Sl Int)} {a1 : Int} {r : Bool} (k0 : CL a0 a1 = some r) : Fin zL 73 [vG.enc a0, .int a1] (.bool r) := by
 unfold CL at k0; replace k0 := kq k0
 refine vF Qa Q0 ?_
 rintro low s r hl hf
 have q5 := @Wg
 refine Ra hl hf ?_
 rintro g1 s r hl hf
 obtain ⟨v2, h3, k1⟩ := uT k0
 refine Ra hl hf ?_
 rintro g4 s r hl hf
 cases oK k1
 exact ⟨Or.inr rfl, hl, AO (AL r.1)⟩
def Jj := fun a0 a1 => Cq.mk (@GE a0 a1)
theorem Vy {a0 : Int} {a1 : (Sl Int)} {r : Int} (k0 : FP a0 a1 = some r) : Fin zL 63 [.int a0, vG.enc a1] (.int r) := by
 unfold FP at k0; replace k0 := kq k0
 refine vF Ks Zv ?_
 rintro low s r hl hf
 refine Ra hl hf ?_
 rintro g1 s r hl hf
 refine Ra hl hf ?_
 rintro g2 s r hl hf
 refine uh ?_
 obtain ⟨o6, l7, k1⟩ := uT k0
 refine A9 (f := EU a1) (E := fun (x : Int × Int) s => DW [I_ 0 x.1, E_ 7 a1, I_ 8 a1.len, I_ 9 x.2] s ∧ s.low = low ∧ uY Ks s) (Q := fun (y5 : Int) j s => j = .exit 0 ∧ DW [I_ 0 y5] s ∧ s.low = low ∧ uY Ks s) l7 ?_ ⟨r, hl, hf⟩ ?_
 ·rintro ⟨x3, x4⟩ s out ⟨r, hl, hf⟩ k2
  dsimp only at r
  simp only [EU] at k2
  refine Ra hl hf ?_
  rintro g8 s r hl hf
  refine E2 r.2.2.2.2.1 k2 (fun c9 k2 => ?_) fun c9 k2 => ?_
  ·refine uh ?_
   obtain ⟨v10, h11, k3⟩ := uT k2
   refine Ra hl hf ?_
   rintro g12 s r hl hf
   have q14 := @dm
   refine Ra hl hf ?_
   rintro g13 s r hl hf
   refine Ra hl hf ?_
   rintro g15 s r hl hf
   obtain rfl := oK k3
   exact ⟨rfl, r, hl, hf⟩
  obtain rfl := oK k2
  exact ⟨by decide, ⟨rfl, ⟨r.1, trivial⟩, hl, hf⟩⟩
 intro j s hq
 obtain ⟨y5, rfl⟩ : ∃ x, x = o6 := ⟨_, rfl⟩
 try dsimp only at k1 hq
 obtain ⟨rfl, r, hl, hf⟩ := hq
 refine Ra hl hf ?_
 rintro g16 s r hl hf
 cases oK k1
 exact ⟨Or.inr rfl, hl, AO (AL r.1)⟩
def J2 := fun a0 a1 => Cq.mk (@Vy a0 a1)
theorem OB {low : List Fr} {a0 : AA} {a1 : Int} {a2 : (Ar 5 Int)} {a3 : Int} {wja0 : Nat} {wta0 : Nat} {wga0 : Nat} (hwa0 : wja0 < low.length) {r : Int} (k0 : He a0 a1 a2 a3 = some r) : JO zL 75 [.agg (AA.lc a0 wja0 wta0 wga0), .d (.int a1), .d (vG.enc a2), .d (.int a3)] low (.d (.int r)) := by
 unfold He at k0; replace k0 := kq k0
 refine en K4 K2 ?_
 rintro s r hl hf
 have q22 := @J2
 have q2 := @Et
 refine Ra hl hf ?_
 rintro g1 s r hl hf
 obtain ⟨v3, h4, k1⟩ := uT k0
 obtain ⟨v5, h6, k2⟩ := uT k1
 have q8 := DY h4
 have q9 := CG h4 rfl rfl
 refine Ra hl hf ?_
 rintro g7 s r hl hf
 obtain ⟨v10, h11, k3⟩ := uT k2
 obtain ⟨v12, h13, k4⟩ := uT k3
 obtain ⟨v14, h15, k5⟩ := uT k4
 have q17 := @Nz
 have q18 := DY h11
 have q19 := CG h11 rfl rfl
 have q20 := DY h13
 have q21 := CG h13 rfl rfl
 refine Ra hl hf ?_
 rintro g16 s r hl hf
 cases oK k5
 exact ⟨Or.inr rfl, hl, AO (AL r.1)⟩
theorem OP {low : List Fr} {a0 : AA} {a1 : Int} {a2 : (Ar 5 Int)} {a3 : Int} {a4 : Int} {wja0 : Nat} {wta0 : Nat} {wga0 : Nat} (hwa0 : wja0 < low.length) {r : Bool} (k0 : FC a0 a1 a2 a3 a4 = some r) : JO zL 59 [.agg (AA.lc a0 wja0 wta0 wga0), .d (.int a1), .d (vG.enc a2), .d (.int a3), .d (.int a4)] low (.d (.bool r)) := by
 unfold FC at k0; replace k0 := kq k0
 refine en K3 K0 ?_
 rintro s r hl hf
 have q23 := @Dn
 have q2 := @Et
 refine Ra hl hf ?_
 rintro g1 s r hl hf
 obtain ⟨uW, q13, k1⟩ := uT k0
 refine gY [B_ 10 uW] hl hf ?_ ?_
 ·by_cases c3 : (decide (BZ.key a2 = BZ.key (⟨[(-1), (-1), (-1), (-1), (-1)], rfl⟩ : (Ar 5 Int)))) = true
  ·rw [if_pos c3] at q13
   have e1 := oI q13
   simp only [rs, ps, BQ, GR, Cj, IX, IQ, Ba, hl, uD hf, r, ON, c3, ← e1, reduceCtorEq, Nat.reduceEqDiff, Nat.reduceAdd]
  rw [if_neg c3] at q13
  have c3 := eq_false_of_ne_true c3
  obtain ⟨v4, h5, q20⟩ := t3 q13
  by_cases c6 : (decide (a3 < v4)) = true
  ·rw [if_pos c6] at q20
   obtain ⟨v7, h8, q21⟩ := t3 q20
   obtain ⟨v9, h10, q22⟩ := t3 q21
   have e1 := oI q22
   have f11 : ∀ (e : uI) (c : Nat), (om zL).call 75 [.agg (AA.lc a0 wja0 wta0 wga0), .d (.int a1), .d (vG.enc a2), .d (.int a3)] (low ++ [⟨e, none⟩]) c = some (.d (.int (v9)), low ++ [⟨e, none⟩], QZ zL 75 [.agg (AA.lc a0 wja0 wta0 wga0), .d (.int a1), .d (vG.enc a2), .d (.int a3)] (low ++ [⟨e, none⟩]) c) := fun e c => JO.om (OB (by first | omega | (simp only [List.length_append, List.length_cons, List.length_nil]; omega)) h10) c
   simp only [rs, ps, BQ, GR, Cj, IX, IQ, Ba, hl, uD hf, r, ON, c3, (DY h5), (CG h5 rfl rfl), c6, (DY h8), (CG h8 rfl rfl), f11, (H8 a4 v7 v9).call, ← e1, reduceCtorEq, Nat.reduceEqDiff, Nat.reduceAdd]
  rw [if_neg c6] at q20
  have c6 := eq_false_of_ne_true c6
  have e1 := oI q20
  simp only [rs, ps, BQ, GR, Cj, IX, IQ, Ba, hl, uD hf, r, ON, c3, (DY h5), (CG h5 rfl rfl), c6, ← e1, reduceCtorEq, Nat.reduceEqDiff, Nat.reduceAdd]
 rintro s r hl hf
 cases oK k1
 exact ⟨Or.inr rfl, hl, AO (AL r.1)⟩
theorem MD {low : List Fr} {a0 : AA} {a1 : Int} {a2 : (Ar 5 Int)} {a3 : (Sl Int)} {wja0 : Nat} {wta0 : Nat} {wga0 : Nat} (hwa0 : wja0 < low.length) {r : Bool} (k0 : CP a0 a1 a2 a3 = some r) : JO zL 77 [.agg (AA.lc a0 wja0 wta0 wga0), .d (.int a1), .d (vG.enc a2), .d (vG.enc a3)] low (.d (.bool r)) := by
 unfold CP at k0; replace k0 := kq k0
 refine en F8 I0 ?_
 rintro s r hl hf
 have q30 := @Jj
 have q2 := @Et
 refine Ra hl hf ?_
 rintro g1 s r hl hf
 have q4 := @OW
 refine Ra hl hf ?_
 rintro g3 s r hl hf
 refine uh ?_
 obtain ⟨o7, l8, k1⟩ := uT k0
 refine A9 (f := Bd a0 a1 a2 a3) (E := fun (x : Int) s => DW [I_ 1 a1, E_ 3 a3, (4, .box g1 (AA.lc a0 wja0 wta0 wga0)), C_ 6 (g1 + 1) a2, E_ 13 a0.VoiceBook.Trials, I_ 14 a0.VoiceBook.Trials.len, I_ 15 x] s ∧ s.low = low ∧ uY F8 s) (Q := fun (o : ((Bool) ⊕ (Unit))) j s => match o with | .inl w6 => j = .ret ∧ ul I0.1 low (.d (.bool w6)) .ret s | .inr _ => j = .exit 0 ∧ DW [(4, .box g1 (AA.lc a0 wja0 wta0 wga0)), C_ 6 (g1 + 1) a2] s ∧ s.low = low ∧ uY F8 s) l8 ?_ ⟨r, hl, hf⟩ ?_
 ·rintro x5 s out ⟨r, hl, hf⟩ k2
  unfold Bd at k2
  refine Ra hl hf ?_
  rintro g9 s r hl hf
  refine E2 r.2.2.2.2.2.2.2.1 k2 (fun c10 k2 => ?_) fun c10 k2 => ?_
  ·refine uh ?_
   obtain ⟨v11, h12, k3⟩ := uT k2
   refine Ra hl hf ?_
   rintro g13 s r hl hf
   obtain ⟨o21, q22, k4⟩ := uT k3
   refine gY [I_ 1 a1, E_ 3 a3, (4, .box g1 (AA.lc a0 wja0 wta0 wga0)), C_ 6 (g1 + 1) a2, E_ 13 a0.VoiceBook.Trials, I_ 14 a0.VoiceBook.Trials.len, I_ 15 x5, B_ 43 o21] hl hf ?_ ?_
   ·by_cases c14 : (decide (v11.Boy = a1)) = true
    ·rw [if_pos c14] at q22
     obtain ⟨v15, h16, q27⟩ := t3 q22
     by_cases c17 : v15 = true
     ·rw [if_pos c17] at q27
      have e1 := oI q27
      simp only [rs, ps, BQ, GR, Cj, Ba, hl, uD hf, r, c14, (GE h16).call, c17, ← e1, reduceCtorEq, Nat.reduceEqDiff, Nat.reduceAdd]
     rw [if_neg c17] at q27
     have c17 := eq_false_of_ne_true c17
     obtain ⟨v18, h19, q28⟩ := t3 q27
     have e1 := oI q28
     have f20 : ∀ (e : uI) (c : Nat), (om zL).call 59 [.agg (AA.lc a0 wja0 wta0 wga0), .d (.int a1), .d (vG.enc a2), .d (.int v11.Week), .d (.int v11.Note)] (low ++ [⟨e, none⟩]) c = some (.d (.bool (v18)), low ++ [⟨e, none⟩], QZ zL 59 [.agg (AA.lc a0 wja0 wta0 wga0), .d (.int a1), .d (vG.enc a2), .d (.int v11.Week), .d (.int v11.Note)] (low ++ [⟨e, none⟩]) c) := fun e c => JO.om (OP (by first | omega | (simp only [List.length_append, List.length_cons, List.length_nil]; omega)) h19) c
     simp only [rs, ps, BQ, GR, Cj, Ba, hl, uD hf, r, c14, (GE h16).call, c17, f20, ← e1, reduceCtorEq, Nat.reduceEqDiff, Nat.reduceAdd]
    rw [if_neg c14] at q22
    have c14 := eq_false_of_ne_true c14
    have e1 := oI q22
    simp only [rs, ps, BQ, GR, Cj, Ba, hl, uD hf, r, c14, ← e1, reduceCtorEq, Nat.reduceEqDiff, Nat.reduceAdd]
   rintro s r hl hf
   refine E2 r.2.2.2.2.2.2.2.1 k4 (fun c24 k4 => ?_) fun c24 k4 => ?_
   ·refine Ra hl hf ?_
    rintro g25 s r hl hf
    obtain rfl := oK k4
    exact ⟨by decide, ⟨rfl, ⟨Or.inr rfl, hl, AO (AL r.1)⟩⟩⟩
   refine Ra hl hf ?_
   rintro g26 s r hl hf
   obtain rfl := oK k4
   exact ⟨rfl, r, hl, hf⟩
  obtain rfl := oK k2
  exact ⟨by decide, ⟨rfl, ⟨r.2.2.1, r.2.2.2.1, trivial⟩, hl, hf⟩⟩
 intro j s hq
 rcases o7 with w6 | _
 ·try dsimp only at k1 hq
  obtain ⟨rfl, hq⟩ := hq
  cases oK k1
  exact hq
 try dsimp only at k1 hq
 obtain ⟨rfl, r, hl, hf⟩ := hq
 refine Ra hl hf ?_
 rintro g29 s r hl hf
 cases oK k1
 exact ⟨Or.inr rfl, hl, AO (AL r.1)⟩
theorem Hr {σ : Type} {yf : (Ar 5 Int) → σ → Option (Bool × σ)} (n : Nat) : ∀ (R : σ → List Fr → Prop) (N : Nat), (∀ s low, R s low → low.length = N) → ∀ (yj yg : Nat), GX zL R yj yg (fun (x : (Ar 5 Int)) => [.d (vG.enc x)]) yf → ∀ (a0 : (Ar 5 Int)) (a1 : Int) (a2x : (Ar 5 Ec)) (a4xf0 : AA) (a5 : Int) (a6 : (Sl Int)) (pja2 : Nat) (pta2 : Nat) (pga2 : Nat) (pja3 : Nat) (pta3 : Nat) (pga3 : Nat) (pja4 : Nat) (pta4 : Nat) (pga4 : Nat) (wja4xf0 : Nat) (wta4xf0 : Nat) (wga4xf0 : Nat) (pja7 : Nat) (pta7 : Nat) (pga7 : Nat), (∀ st low, R st low → HD low pja2 pta2 = some (.box pga2 ((vG.cells a2x).map LV.d))) → (∀ st low, R st low → HD low pja3 pta3 = some (.box pga3 [.fn 78 [] [.ptr pja2 pta2 pga2 0, .ptr pja3 pta3 pga3 0, .ptr pja4 pta4 pga4 0, .d (.fptr [.int a5] 0), .d (.fptr [vG.enc a6] 0), .ptr pja7 pta7 pga7 0]])) → (wja4xf0 < N) → (∀ st low, R st low → HD low pja4 pta4 = some (.box pga4 [.fn 77 [.agg (AA.lc a4xf0 wja4xf0 wta4xf0 wga4xf0)] []])) → (∀ st low, R st low → HD low pja7 pta7 = some (.box pga7 [.yield yj yg])) → ∀ (low : List Fr) (st : σ), R st low → ∀ r : Bool × σ, Ai yf n a0 a1 a2x a4xf0 a5 a6 st = some r → ib zL 78 [.d (vG.enc a0), .d (.int a1), .ptr pja2 pta2 pga2 0, .ptr pja3 pta3 pga3 0, .ptr pja4 pta4 pga4 0, .d (.fptr [.int a5] 0), .d (.fptr [vG.enc a6] 0), .ptr pja7 pta7 pga7 0] R low (.d (.bool r.1)) r.2 := by
 induction n with
 | zero => intro R N hN yj yg hy a0 a1 a2x a4xf0 a5 a6 pja2 pta2 pga2 pja3 pta3 pga3 pja4 pta4 pga4 wja4xf0 wta4xf0 wga4xf0 pja7 pta7 pga7 ba2S ba3S hwa4xf0 ba4S ba7S low st hR r k0; simp [Ai] at k0
 | succ n ih =>
  intro R N hN yj yg hy a0 a1 a2x a4xf0 a5 a6 pja2 pta2 pga2 pja3 pta3 pga3 pja4 pta4 pga4 wja4xf0 wta4xf0 wga4xf0 pja7 pta7 pga7 ba2S ba3S hwa4xf0 ba4S ba7S low st hR r k0
  simp only [Ai] at k0; replace k0 := kq k0
  refine rz BU E6 ?_
  rintro s r hl hf
  have hlN : low.length = N := hN _ _ hR
  have ba2 := ba2S _ _ hR
  have ba3 := ba3S _ _ hR
  have ba4 := ba4S _ _ hR
  have ba7 := ba7S _ _ hR
  refine Ra hl hf ?_
  rintro g1 s r hl hf
  obtain ⟨v2, h3, k1⟩ := uT k0
  have q5 := DY h3
  have q6 := EE ba2
  have q7 := fk (sz := 2) h3 rfl
  refine Ra hl hf ?_
  rintro g4 s r hl hf
  refine Ra hl hf ?_
  rintro g8 s r hl hf
  refine uh ?_
  obtain ⟨uk, l16, k2⟩ := uT k1
  refine A9 (f := A5 (Ai yf n) yf a1 a2x a4xf0 a5 a6 v2) (E := fun (x : σ × (Ar 5 Int) × Int) s => DW [I_ 1 a1, (3, .v (.ptr pja3 pta3 pga3 0)), (4, .v (.ptr pja4 pta4 pga4 0)), (5, .v (.d (.fptr [.int a5] 0))), (6, .v (.d (.fptr [vG.enc a6] 0))), (7, .v (.ptr pja7 pta7 pga7 0)), C_ 8 g1 x.2.1, C_ 11 (g4 + 1 + 1 + 1) v2, I_ 21 (W ((W (v2.High - v2.Low)) + 1)), I_ 22 x.2.2] s ∧ R x.1 s.low ∧ uY BU s) (Q := fun (o : ((Bool × σ) ⊕ (σ × (Ar 5 Int)))) j s => match o with | .inl w12 => j = .ret ∧ rq E6.1 R w12.2 (.d (.bool w12.1)) .ret s | .inr (y13, y14) => j = .exit 0 ∧ DW [C_ 8 g1 y14, C_ 11 (g4 + 1 + 1 + 1) v2] s ∧ R y13 s.low ∧ uY BU s) l16 ?_ ⟨r, (by rw [hl]; exact hR), hf⟩ ?_
  ·rintro ⟨x9, x10, x11⟩ s out ⟨r, hR0, hf⟩ k3
   dsimp only at hR0 r
   obtain ⟨low, hl⟩ : ∃ l, s.low = l := ⟨_, rfl⟩
   rw [hl] at hR0
   have hR := hR0
   have hlN : low.length = N := hN _ _ hR
   have ba2 := ba2S _ _ hR
   have ba3 := ba3S _ _ hR
   have ba4 := ba4S _ _ hR
   have ba7 := ba7S _ _ hR
   simp only [A5] at k3
   refine Ra hl hf ?_
   rintro g17 s r hl hf
   refine E2 r.2.2.2.2.2.2.2.2.2.2.1 k3 (fun c18 k3 => ?_) fun c18 k3 => ?_
   ·refine uh <| Ra hl hf ?_
    rintro g19 s r hl hf
    obtain ⟨v20, h21, k4⟩ := uT k3
    have q23 := DY h21
    have q24 := ov h21
    refine Ra hl hf ?_
    rintro g22 s r hl hf
    refine Ra hl hf ?_
    rintro g25 s r hl hf
    refine E2 r.2.2.2.2.2.2.2.2.2.2.1 k4 (fun ui k4 => ?_) fun ui k4 => ?_
    ·obtain ⟨⟨v27, t28⟩, h29, k5⟩ := uT k4
     dsimp only at k5
     refine regS (B := BU) (low := low) (Q := R t28) [I_ 1 a1, (3, .v (.ptr pja3 pta3 pga3 0)), (4, .v (.ptr pja4 pta4 pga4 0)), (5, .v (.d (.fptr [.int a5] 0))), (6, .v (.d (.fptr [vG.enc a6] 0))), (7, .v (.ptr pja7 pta7 pga7 0)), C_ 8 g1 (x10.put a1 (W (v2.Low + x11))), C_ 11 (g4 + 1 + 1 + 1) v2, I_ 21 (W ((W (v2.High - v2.Low)) + 1)), I_ 22 x11, B_ 38 (!v27)] hl hf ?_ ?_
     ·have f30 : ∀ (e : uI) (c : Nat), (om zL).call 78 [.d (vG.enc (x10.put a1 (W (v2.Low + x11)))), .d (.int (W (a1 + 1))), .ptr pja2 pta2 pga2 0, .ptr pja3 pta3 pga3 0, .ptr pja4 pta4 pga4 0, .d (.fptr [.int a5] 0), .d (.fptr [vG.enc a6] 0), .ptr pja7 pta7 pga7 0] (low ++ [⟨e, none⟩]) c = some (.d (.bool v27), XI zL 78 [.d (vG.enc (x10.put a1 (W (v2.Low + x11)))), .d (.int (W (a1 + 1))), .ptr pja2 pta2 pga2 0, .ptr pja3 pta3 pga3 0, .ptr pja4 pta4 pga4 0, .d (.fptr [.int a5] 0), .d (.fptr [vG.enc a6] 0), .ptr pja7 pta7 pga7 0] (low ++ [⟨e, none⟩]) c ++ [⟨e, none⟩], QZ zL 78 [.d (vG.enc (x10.put a1 (W (v2.Low + x11)))), .d (.int (W (a1 + 1))), .ptr pja2 pta2 pga2 0, .ptr pja3 pta3 pga3 0, .ptr pja4 pta4 pga4 0, .d (.fptr [.int a5] 0), .d (.fptr [vG.enc a6] 0), .ptr pja7 pta7 pga7 0] (low ++ [⟨e, none⟩]) c) ∧ R t28 (XI zL 78 [.d (vG.enc (x10.put a1 (W (v2.Low + x11)))), .d (.int (W (a1 + 1))), .ptr pja2 pta2 pga2 0, .ptr pja3 pta3 pga3 0, .ptr pja4 pta4 pga4 0, .d (.fptr [.int a5] 0), .d (.fptr [vG.enc a6] 0), .ptr pja7 pta7 pga7 0] (low ++ [⟨e, none⟩]) c) ∧ (XI zL 78 [.d (vG.enc (x10.put a1 (W (v2.Low + x11)))), .d (.int (W (a1 + 1))), .ptr pja2 pta2 pga2 0, .ptr pja3 pta3 pga3 0, .ptr pja4 pta4 pga4 0, .d (.fptr [.int a5] 0), .d (.fptr [vG.enc a6] 0), .ptr pja7 pta7 pga7 0] (low ++ [⟨e, none⟩]) c).length = low.length := fun e c => ib.om hN hR (ih (mS R ⟨e, none⟩) (N + 1) (QJ hN _) yj yg (hy.push _) (x10.put a1 (W (v2.Low + x11))) (W (a1 + 1)) a2x a4xf0 a5 a6 _ _ _ _ _ _ _ _ _ _ _ _ _ _ _ (FX ba2S _) (FX ba3S _) (by first | omega | (simp only [List.length_append, List.length_cons, List.length_nil]; omega)) (FX ba4S _) (FX ba7S _) _ _ ⟨low, rfl, hR⟩ _ h29) c
      simp only [rs, ps, GR, HU, Cj, hl, uD hf, hlN, r, (EE ba3), (fun e c => (f30 e c).1), (fun e c => (f30 e c).2.1), (fun e c => (f30 e c).2.2), reduceCtorEq, Nat.reduceEqDiff, Nat.reduceAdd]
     rintro s r hR0 hf
     obtain ⟨low, hl⟩ : ∃ l, s.low = l := ⟨_, rfl⟩
     rw [hl] at hR0
     have hR := hR0
     have hlN : low.length = N := hN _ _ hR
     have ba2 := ba2S _ _ hR
     have ba3 := ba3S _ _ hR
     have ba4 := ba4S _ _ hR
     have ba7 := ba7S _ _ hR
     refine NF r.2.2.2.2.2.2.2.2.2.2.1 k5 (fun c31 k5 => ?_) fun c31 k5 => ?_
     ·refine Ra hl hf ?_
      rintro g32 s r hl hf
      obtain rfl := oK k5
      exact ⟨rfl, r, (by rw [hl]; exact hR), hf⟩
     refine Ra hl hf ?_
     rintro g33 s r hl hf
     obtain rfl := oK k5
     exact ⟨by decide, ⟨rfl, ⟨Or.inr rfl, (by rw [hl]; exact hR), AO (AL r.1)⟩⟩⟩
    obtain ⟨v34, h35, k6⟩ := uT k4
    have q38 := @HU
    have q39 := EE ba4
    have f36 : ∀ (e : uI) (c : Nat), (om zL).call 77 [.agg (AA.lc a4xf0 wja4xf0 wta4xf0 wga4xf0), .d (.int a5), .d (vG.enc (x10.put a1 (W (v2.Low + x11)))), .d (vG.enc a6)] (low ++ [⟨e, none⟩]) c = some (.d (.bool (v34)), low ++ [⟨e, none⟩], QZ zL 77 [.agg (AA.lc a4xf0 wja4xf0 wta4xf0 wga4xf0), .d (.int a5), .d (vG.enc (x10.put a1 (W (v2.Low + x11)))), .d (vG.enc a6)] (low ++ [⟨e, none⟩]) c) := fun e c => JO.om (MD (by first | omega | (simp only [List.length_append, List.length_cons, List.length_nil]; omega)) h35) c
    have q40 := @f36
    refine Ra hl hf ?_
    rintro g37 s r hl hf
    refine NF r.2.2.2.2.2.2.2.2.2.2.1 k6 (fun c41 k6 => ?_) fun c41 k6 => ?_
    ·obtain ⟨⟨v42, t43⟩, h44, k7⟩ := uT k6
     dsimp only at k7
     refine regS (B := BU) (low := low) (Q := R t43) [I_ 1 a1, (3, .v (.ptr pja3 pta3 pga3 0)), (4, .v (.ptr pja4 pta4 pga4 0)), (5, .v (.d (.fptr [.int a5] 0))), (6, .v (.d (.fptr [vG.enc a6] 0))), (7, .v (.ptr pja7 pta7 pga7 0)), C_ 8 g1 (x10.put a1 (W (v2.Low + x11))), C_ 11 (g4 + 1 + 1 + 1) v2, I_ 21 (W ((W (v2.High - v2.Low)) + 1)), I_ 22 x11, B_ 48 (!v42)] hl hf ?_ ?_
     ·have f45 : ∀ (fr : Fr) (c : Nat), (om zL).round yj yg [.d (vG.enc (x10.put a1 (W (v2.Low + x11))))] (low ++ [fr]) c = some (v42, mF zL yj yg [.d (vG.enc (x10.put a1 (W (v2.Low + x11))))] (low ++ [fr]) c ++ [fr], qm zL yj yg [.d (vG.enc (x10.put a1 (W (v2.Low + x11))))] (low ++ [fr]) c) ∧ R t43 (mF zL yj yg [.d (vG.enc (x10.put a1 (W (v2.Low + x11))))] (low ++ [fr]) c) ∧ (mF zL yj yg [.d (vG.enc (x10.put a1 (W (v2.Low + x11))))] (low ++ [fr]) c).length = low.length := fun fr c => hy.om hN hR h44 fr c
      simp only [rs, ps, gk, Cj, hl, uD hf, hlN, r, (EE ba7), (fun fr c => (f45 fr c).1), (fun fr c => (f45 fr c).2.1), (fun fr c => (f45 fr c).2.2), reduceCtorEq, Nat.reduceEqDiff, Nat.reduceAdd]
     rintro s r hR0 hf
     obtain ⟨low, hl⟩ : ∃ l, s.low = l := ⟨_, rfl⟩
     rw [hl] at hR0
     have hR := hR0
     have hlN : low.length = N := hN _ _ hR
     have ba2 := ba2S _ _ hR
     have ba3 := ba3S _ _ hR
     have ba4 := ba4S _ _ hR
     have ba7 := ba7S _ _ hR
     refine NF r.2.2.2.2.2.2.2.2.2.2.1 k7 (fun c46 k7 => ?_) fun c46 k7 => ?_
     ·refine Ra hl hf ?_
      rintro g47 s r hl hf
      obtain rfl := oK k7
      exact ⟨rfl, r, (by rw [hl]; exact hR), hf⟩
     refine Ra hl hf ?_
     rintro g48 s r hl hf
     obtain rfl := oK k7
     exact ⟨by decide, ⟨rfl, ⟨Or.inr rfl, (by rw [hl]; exact hR), AO (AL r.1)⟩⟩⟩
    refine Ra hl hf ?_
    rintro g49 s r hl hf
    obtain rfl := oK k6
    exact ⟨rfl, r, (by rw [hl]; exact hR), hf⟩
   obtain rfl := oK k3
   exact ⟨by decide, ⟨rfl, ⟨r.2.2.2.2.2.2.1, r.2.2.2.2.2.2.2.1, trivial⟩, (by rw [hl]; exact hR), hf⟩⟩
  intro j s hq
  rcases uk with w12 | ⟨y13, y14⟩
  ·try dsimp only at k2 hq
   obtain ⟨rfl, hq⟩ := hq
   cases oK k2
   exact hq
  try dsimp only at k2 hq
  obtain ⟨rfl, r, hR0, hf⟩ := hq
  obtain ⟨low, hl⟩ : ∃ l, s.low = l := ⟨_, rfl⟩
  rw [hl] at hR0
  have hR := hR0
  have hlN : low.length = N := hN _ _ hR
  have ba2 := ba2S _ _ hR
  have ba3 := ba3S _ _ hR
  have ba4 := ba4S _ _ hR
  have ba7 := ba7S _ _ hR
  refine Ra hl hf ?_
  rintro g50 s r hl hf
  cases oK k2
  exact ⟨Or.inr rfl, (by rw [hl]; exact hR), AO (AL r.1)⟩
theorem JB {σ : Type} {R : σ → List Fr → Prop} {N : Nat} (hN : ∀ s low, R s low → low.length = N) {yf : (Ar 5 Int) → σ → Option (Bool × σ)} {yj yg : Nat} (hy : GX zL R yj yg (fun (x : (Ar 5 Int)) => [.d (vG.enc x)]) yf) {a1 : AA} {a2 : Int} {a3 : (Sl Int)} {wja1 : Nat} {wta1 : Nat} {wga1 : Nat} (hwa1 : wja1 < N) {low : List Fr} {st : σ} (hR : R st low) {r : Unit × σ} (k0 : B0 yf a1 a2 a3 st = some r) : ib zL 76 [.yield yj yg, .fptr (AA.lc a1 wja1 wta1 wga1) 0, .d (.fptr [.int a2] 0), .d (.fptr [vG.enc a3] 0)] R low (.d (.tup [])) r.2 := by
 unfold B0 at k0; replace k0 := kq k0
 refine rz GZ K6 ?_
 rintro s r hl hf
 have hlN : low.length = N := hN _ _ hR
 refine Ra hl hf ?_
 rintro g1 s r hl hf
 have q3 := @Qc
 have q4 := @PE
 have q5 := @M1
 refine Ra hl hf ?_
 rintro g2 s r hl hf
 obtain ⟨v6, h7, k1⟩ := uT k0
 have q9 := @VG
 refine Ra hl hf ?_
 rintro g8 s r hl hf
 refine Ra hl hf ?_
 rintro g10 s r hl hf
 refine Ra hl hf ?_
 rintro g11 s r hl hf
 have q13 := @M1
 refine Ra hl hf ?_
 rintro g12 s r hl hf
 obtain ⟨⟨v14, t15⟩, h16, k2⟩ := uT k1
 dsimp only at k2
 refine regS (B := GZ) (low := low) (Q := R t15) [] hl hf ?_ ?_
 ·have f17 : ∀ (e : uI) (c : Nat) (z0 : uI.get 7 e = some (.box (g10 + 1 + 1 + 1 + 1 + 1 + 1 + 1 + 1 + 1 + 1 + 1) ((vG.cells (⟨[v6.Low, v6.High, v6.Gain, v6.Turn, v6.Break], rfl⟩ : (Ar 5 Ec))).map LV.d))) (z1 : uI.get 8 e = some (.box g11 [.fn 78 [] [.ptr N 7 (g10 + 1 + 1 + 1 + 1 + 1 + 1 + 1 + 1 + 1 + 1 + 1) 0, .ptr N 8 g11 0, .ptr N 5 (g2 + 1 + 1) 0, .d (.fptr [.int a2] 0), .d (.fptr [vG.enc a3] 0), .ptr N 4 g1 0]])) (z2 : uI.get 5 e = some (.box (g2 + 1 + 1) [.fn 77 [.agg (AA.lc a1 wja1 wta1 wga1)] []])) (z3 : uI.get 4 e = some (.box g1 [.yield yj yg])), (om zL).call 78 [.d (vG.enc (⟨[(-1), (-1), (-1), (-1), (-1)], rfl⟩ : (Ar 5 Int))), .d (.int 0), .ptr N 7 (g10 + 1 + 1 + 1 + 1 + 1 + 1 + 1 + 1 + 1 + 1 + 1) 0, .ptr N 8 g11 0, .ptr N 5 (g2 + 1 + 1) 0, .d (.fptr [.int a2] 0), .d (.fptr [vG.enc a3] 0), .ptr N 4 g1 0] (low ++ [⟨e, none⟩]) c = some (.d (.bool v14), XI zL 78 [.d (vG.enc (⟨[(-1), (-1), (-1), (-1), (-1)], rfl⟩ : (Ar 5 Int))), .d (.int 0), .ptr N 7 (g10 + 1 + 1 + 1 + 1 + 1 + 1 + 1 + 1 + 1 + 1 + 1) 0, .ptr N 8 g11 0, .ptr N 5 (g2 + 1 + 1) 0, .d (.fptr [.int a2] 0), .d (.fptr [vG.enc a3] 0), .ptr N 4 g1 0] (low ++ [⟨e, none⟩]) c ++ [⟨e, none⟩], QZ zL 78 [.d (vG.enc (⟨[(-1), (-1), (-1), (-1), (-1)], rfl⟩ : (Ar 5 Int))), .d (.int 0), .ptr N 7 (g10 + 1 + 1 + 1 + 1 + 1 + 1 + 1 + 1 + 1 + 1 + 1) 0, .ptr N 8 g11 0, .ptr N 5 (g2 + 1 + 1) 0, .d (.fptr [.int a2] 0), .d (.fptr [vG.enc a3] 0), .ptr N 4 g1 0] (low ++ [⟨e, none⟩]) c) ∧ R t15 (XI zL 78 [.d (vG.enc (⟨[(-1), (-1), (-1), (-1), (-1)], rfl⟩ : (Ar 5 Int))), .d (.int 0), .ptr N 7 (g10 + 1 + 1 + 1 + 1 + 1 + 1 + 1 + 1 + 1 + 1 + 1) 0, .ptr N 8 g11 0, .ptr N 5 (g2 + 1 + 1) 0, .d (.fptr [.int a2] 0), .d (.fptr [vG.enc a3] 0), .ptr N 4 g1 0] (low ++ [⟨e, none⟩]) c) ∧ (XI zL 78 [.d (vG.enc (⟨[(-1), (-1), (-1), (-1), (-1)], rfl⟩ : (Ar 5 Int))), .d (.int 0), .ptr N 7 (g10 + 1 + 1 + 1 + 1 + 1 + 1 + 1 + 1 + 1 + 1 + 1) 0, .ptr N 8 g11 0, .ptr N 5 (g2 + 1 + 1) 0, .d (.fptr [.int a2] 0), .d (.fptr [vG.enc a3] 0), .ptr N 4 g1 0] (low ++ [⟨e, none⟩]) c).length = low.length := fun e c z0 z1 z2 z3 => ib.om hN hR (Hr 64 (mS R ⟨e, none⟩) (N + 1) (QJ hN _) yj yg (hy.push _) (⟨[(-1), (-1), (-1), (-1), (-1)], rfl⟩ : (Ar 5 Int)) 0 (⟨[v6.Low, v6.High, v6.Gain, v6.Turn, v6.Break], rfl⟩ : (Ar 5 Ec)) a1 a2 a3 _ _ _ _ _ _ _ _ _ _ _ _ _ _ _ (Jo hN z0) (Jo hN z1) (by first | omega | (simp only [List.length_append, List.length_cons, List.length_nil]; omega)) (Jo hN z2) (Jo hN z3) _ _ ⟨low, rfl, hR⟩ _ h16) c
  simp only [rs, BQ, GR, HU, Cj, hl, uD hf, hlN, r, ON, (fun e c z0 z1 z2 z3 => (f17 e c z0 z1 z2 z3).1), (fun e c z0 z1 z2 z3 => (f17 e c z0 z1 z2 z3).2.1), (fun e c z0 z1 z2 z3 => (f17 e c z0 z1 z2 z3).2.2), reduceCtorEq, Nat.reduceEqDiff, Nat.reduceAdd]
 rintro s - hR0 hf
 obtain ⟨low, hl⟩ : ∃ l, s.low = l := ⟨_, rfl⟩
 rw [hl] at hR0
 have hR := hR0
 have hlN : low.length = N := hN _ _ hR
 cases oK k2
 exact ⟨Or.inl rfl, (by rw [hl]; exact hR), lV _⟩
theorem GH {a0 : VoiceBook} {a1 : (Sl Int)} {r : AA} (k0 : Eh a0 a1 = some r) : Fin zL 47 [vG.enc a0, vG.enc a1] (vG.enc r) := by
 unfold Eh at k0; replace k0 := kq k0
 refine vF Av We ?_
 rintro low s ⟨r0, r1, -⟩ hl hf
 have q69 := @J2
 have q2 := @MK
 refine Ra hl hf ?_
 rintro g1 s ⟨r1, r2, r4, -⟩ hl hf
 have q4 := @JV
 have q5 := @Ge
 have q6 := @Md
 have q7 := @MK
 refine Ra hl hf ?_
 rintro g3 s ⟨r1, r2, r4, r5, r12, -⟩ hl hf
 refine Ra hl hf ?_
 rintro g8 s ⟨r1, r2, r4, r5, r12, r16, r17, -⟩ hl hf
 refine uh ?_
 obtain ⟨uC, l15, k1⟩ := uT k0
 refine A9 (f := D1 a0 a1) (E := fun (x : AA × (List (List Int × (Sl (Ar 5 Int)))) × Int) s => Br [E_ 1 a1, C_ 2 g1 a0, C_ 4 (g1 + 1) (AA.mk (VoiceBook.mk (Sl.nil : (Sl AN)) 0 (Sl.nil : (Sl AE))) (Sl.nil : (Sl (Sl (Ar 5 Int)))) (Mp.nil : (Mp 2 (Sl (Ar 5 Int))))), (5, .box (g3 + 1 + 1 + 1) (AQ x.1 low.length 12 (g3 + 1))), (12, .mapo (g3 + 1) 2 (DK x.2.1)), I_ 16 a0.Boys.len, I_ 17 x.2.2] s ∧ s.low = low ∧ uY Av s) (Q := fun (o : AA × (List (List Int × (Sl (Ar 5 Int))))) j s => match o with | (y12, y13) => j = .exit 0 ∧ Br [C_ 2 g1 a0, C_ 4 (g1 + 1) (AA.mk (VoiceBook.mk (Sl.nil : (Sl AN)) 0 (Sl.nil : (Sl AE))) (Sl.nil : (Sl (Sl (Ar 5 Int)))) (Mp.nil : (Mp 2 (Sl (Ar 5 Int))))), (5, .box (g3 + 1 + 1 + 1) (AQ y12 low.length 12 (g3 + 1))), (12, .mapo (g3 + 1) 2 (DK y13))] s ∧ s.low = low ∧ uY Av s) l15 ?_ ⟨⟨r1, r2, r4, (sx r5 (PS (AA.mk a0 (Sl.nil : (Sl (Sl (Ar 5 Int)))) (Mp.nil : (Mp 2 (Sl (Ar 5 Int))))) _ _ _)), r12, r16, r17, trivial⟩, hl, hf⟩ ?_
 ·rintro ⟨x9, x10, x11⟩ s out ⟨⟨r1, r2, r4, r5, r12, r16, r17, -⟩, hl, hf⟩ k2
  dsimp only at r5 r12 r17
  simp only [D1] at k2
  refine Ra hl hf ?_
  rintro g16 s ⟨r1, r2, r4, r5, r12, r16, r17, r18, -⟩ hl hf
  refine E2 r18 k2 (fun c17 k2 => ?_) fun c17 k2 => ?_
  ·refine uh <| Ra hl hf ?_
   rintro g18 s ⟨r1, r2, r4, r5, r6, r12, r16, r17, -⟩ hl hf
   refine Ra hl hf ?_
   rintro g19 s ⟨r1, r2, r4, r5, r6, r7, r12, r16, r17, -⟩ hl hf
   have q22 := @Fe
   have f20 : ∀ (e : uI) (c : Nat), (om zL).call 62 [.agg (AA.lc x9 low.length 12 (g3 + 1)), .d (.int x11), .d (vG.enc a1)] (low ++ [⟨e, none⟩]) c = some (.fn 76 [] [.fptr (AA.lc x9 low.length 12 (g3 + 1)) 0, .d (.fptr [.int x11] 0), .d (.fptr [vG.enc a1] 0)], low ++ [⟨e, none⟩], QZ zL 62 [.agg (AA.lc x9 low.length 12 (g3 + 1)), .d (.int x11), .d (vG.enc a1)] (low ++ [⟨e, none⟩]) c) := fun e c => JO.om (K8 x9 x11 a1 (by first | omega | (simp only [List.length_append, List.length_cons, List.length_nil]; omega))) c
   have q23 := @f20
   refine Ra hl hf ?_
   rintro g21 s ⟨r1, r2, r4, r5, r6, r7, r12, r16, r17, uV, -⟩ hl hf
   refine uh ?_
   obtain ⟨⟨_, o53⟩, l54, k10⟩ := uT k2
   refine Run.rng (B := Av) (base := low) (n := 76) (a := []) (b := [.fptr (AA.lc x9 low.length 12 (g3 + 1)) 0, .d (.fptr [.int x11] 0), .d (.fptr [vG.enc a1] 0)]) (jm := fun (_ : Unit) => vI.ret) (l := fun (o : ((Sl (Ar 5 Int)) × (List (List Int × (Sl (Ar 5 Int))))) ⊕ (Unit)) => match o with | .inl (x25, x26) => [(1, .v (.d (vG.enc a1))), (2, .box g1 ((vG.cells a0).map LV.d)), (4, .box (g1 + 1) ((vG.cells (AA.mk (VoiceBook.mk (Sl.nil : (Sl AN)) 0 (Sl.nil : (Sl AE))) (Sl.nil : (Sl (Sl (Ar 5 Int)))) (Mp.nil : (Mp 2 (Sl (Ar 5 Int)))))).map LV.d)), (5, .box (g3 + 1 + 1 + 1) (AQ x9 low.length 12 (g3 + 1))), (6, .box (g18 + 1) [.d (.int x11)]), (7, .box g19 [Sl.lv x25]), (12, .mapo (g3 + 1) 2 (DK x26)), (16, .v (.d (.int a0.Boys.len))), (17, .v (.d (.int x11))), (23, .v (.fn 76 [] [.fptr (AA.lc x9 low.length 12 (g3 + 1)) 0, .d (.fptr [.int x11] 0), .d (.fptr [vG.enc a1] 0)]))] | .inr _ => []) (t0 := ((Sl.nil : (Sl (Ar 5 Int))), x10)) (st' := o53) (v := .d (.tup [])) hl hf (by simp only [MG, IM, Ej, uV, HJ, Lt, PW, S5, List.map_cons, List.map_nil]) ⟨r1, r2, r4, r5, r6, r7, r12, r16, r17, uV, trivial⟩ ?_ ?_
   ·intro g low1 hc
    refine JB (R := mR Av low g [24] _ _ (fun (_ : Unit) => vI.ret) (fun (o : ((Sl (Ar 5 Int)) × (List (List Int × (Sl (Ar 5 Int))))) ⊕ (Unit)) => match o with | .inl (x25, x26) => [(1, .v (.d (vG.enc a1))), (2, .box g1 ((vG.cells a0).map LV.d)), (4, .box (g1 + 1) ((vG.cells (AA.mk (VoiceBook.mk (Sl.nil : (Sl AN)) 0 (Sl.nil : (Sl AE))) (Sl.nil : (Sl (Sl (Ar 5 Int)))) (Mp.nil : (Mp 2 (Sl (Ar 5 Int)))))).map LV.d)), (5, .box (g3 + 1 + 1 + 1) (AQ x9 low.length 12 (g3 + 1))), (6, .box (g18 + 1) [.d (.int x11)]), (7, .box g19 [Sl.lv x25]), (12, .mapo (g3 + 1) 2 (DK x26)), (16, .v (.d (.int a0.Boys.len))), (17, .v (.d (.int x11))), (23, .v (.fn 76 [] [.fptr (AA.lc x9 low.length 12 (g3 + 1)) 0, .d (.fptr [.int x11] 0), .d (.fptr [vG.enc a1] 0)]))] | .inr _ => [])) (fun st l h => TF st l h) ?_ (by first | omega | (simp only [List.length_append, List.length_cons, List.length_nil]; omega)) hc l54
    refine G6 (by decide) (fun _ => rfl) ?_
    rintro a24 ⟨x25, x26⟩ out k3 e above low0 lw lp s hr ha hr0 hBB hl hf
    obtain ⟨e1, e2, e4, e5, e6, e7, e12, e16, e17, e23, -⟩ := hr0
    have r1 : s.raw 1 = some (.v (.d (vG.enc a1))) := hr 1 _ rfl e1
    have r2 : s.raw 2 = some (.v (.ptr low.length 2 g1 0)) := hr 2 _ rfl e2
    have r4 : s.raw 4 = some (.v (.ptr low.length 4 (g1 + 1) 0)) := hr 4 _ rfl e4
    have r5 : s.raw 5 = some (.v (.ptr low.length 5 (g3 + 1 + 1 + 1) 0)) := hr 5 _ rfl e5
    have r6 : s.raw 6 = some (.v (.ptr low.length 6 (g18 + 1) 0)) := hr 6 _ rfl e6
    have r7 : s.raw 7 = some (.v (.ptr low.length 7 g19 0)) := hr 7 _ rfl e7
    have r12 : s.raw 12 = some (.v (.mref low.length 12 (g3 + 1))) := hr 12 _ rfl e12
    have r16 : s.raw 16 = some (.v (.d (.int a0.Boys.len))) := hr 16 _ rfl e16
    have r17 : s.raw 17 = some (.v (.d (.int x11))) := hr 17 _ rfl e17
    have uV : s.raw 23 = some (.v (.fn 76 [] [.fptr (AA.lc x9 low.length 12 (g3 + 1)) 0, .d (.fptr [.int x11] 0), .d (.fptr [vG.enc a1] 0)])) := hr 23 _ rfl e23
    obtain ⟨r24, -⟩ := ha
    simp only [Ef] at k3
    replace k3 := kq k3
    refine Nx.run <| Ra hl hf ?_
    rintro g27 s ⟨r2, r5, r6, r7, r8, r12, -⟩ hl hf
    refine ⟨rfl, hl, ?_⟩
    intro s2 hraw hl
    replace r2 := (hraw 2).trans r2
    replace r5 := (hraw 5).trans r5
    replace r6 := (hraw 6).trans r6
    replace r7 := (hraw 7).trans r7
    replace r8 := (hraw 8).trans r8
    replace r12 := (hraw 12).trans r12
    replace hf := uY.congr hf hraw
    clear hraw
    obtain ⟨s, hs⟩ : ∃ q, q = s2 := ⟨_, rfl⟩
    rw [← hs] at r2 r5 r6 r7 r8 r12 hl hf
    rw [← hs]
    clear hs s2
    have hB := hBB
    obtain ⟨m1, m2, m4, m5, m6, m7, m12, m16, m17, m23, -⟩ := G1.all hB
    have hlt : low.length < lw.length := by have := G1.len hB; omega
    refine Nx.run <| uh ?_
    obtain ⟨v28, h29, k4⟩ := uT k3
    refine regS (B := Av) (low := lw) (Q := fun q => q = (Bz (Bz lw low.length 7 (.box g19 [Sl.lv x25.spent])) low.length 7 (.box g19 [Sl.lv v28]))) [(2, .v (.ptr low.length 2 g1 0)), (5, .v (.ptr low.length 5 (g3 + 1 + 1 + 1) 0)), (6, .v (.ptr low.length 6 (g18 + 1) 0)), C_ 8 g27 a24, (12, .v (.mref low.length 12 (g3 + 1)))] hl hf ?_ ?_
    ·simp only [rs, ps, Ov, HG, FZ, Eg, I1, Ix, Hz, hl, uD hf, r2, r5, r6, r7, r8, r12, m1, m2, m4, m5, m6, m7, m12, m16, m17, m23, hlt, (cx (LP := zL) (x := x25) (j := low.length) (t := 7) (gb := g19)), (GQ (sz := 5) (x := x25) (y := (Sl.cold [a24] : Sl (Ar 5 Int))) rfl rfl h29), (RR (x := v28)), reduceCtorEq, Nat.reduceEqDiff, Nat.reduceAdd]
    rintro s ⟨r2, r5, r6, r8, r12, -⟩ hl hf
    replace hl : s.low = (Bz (Bz lw low.length 7 (.box g19 [Sl.lv x25.spent])) low.length 7 (.box g19 [Sl.lv v28])) := hl
    replace hB := G1.set (l' := [(1, .v (.d (vG.enc a1))), (2, .box g1 ((vG.cells a0).map LV.d)), (4, .box (g1 + 1) ((vG.cells (AA.mk (VoiceBook.mk (Sl.nil : (Sl AN)) 0 (Sl.nil : (Sl AE))) (Sl.nil : (Sl (Sl (Ar 5 Int)))) (Mp.nil : (Mp 2 (Sl (Ar 5 Int)))))).map LV.d)), (5, .box (g3 + 1 + 1 + 1) (AQ x9 low.length 12 (g3 + 1))), (6, .box (g18 + 1) [.d (.int x11)]), (7, .box g19 [Sl.lv x25.spent]), (12, .mapo (g3 + 1) 2 (DK x26)), (16, .v (.d (.int a0.Boys.len))), (17, .v (.d (.int x11))), (23, .v (.fn 76 [] [.fptr (AA.lc x9 low.length 12 (g3 + 1)) 0, .d (.fptr [.int x11] 0), .d (.fptr [vG.enc a1] 0)]))]) hB 7 _ rfl (fun s ⟨q1, q2, q4, q5, q6, q7, q12, q16, q17, q23, _⟩ => ⟨(by rw [Ae, if_neg (by decide)]; exact q1), (by rw [Ae, if_neg (by decide)]; exact q2), (by rw [Ae, if_neg (by decide)]; exact q4), (by rw [Ae, if_neg (by decide)]; exact q5), (by rw [Ae, if_neg (by decide)]; exact q6), (by rw [Ae, if_pos rfl]), (by rw [Ae, if_neg (by decide)]; exact q12), (by rw [Ae, if_neg (by decide)]; exact q16), (by rw [Ae, if_neg (by decide)]; exact q17), (by rw [Ae, if_neg (by decide)]; exact q23), trivial⟩)
    replace hB := G1.set (l' := [(1, .v (.d (vG.enc a1))), (2, .box g1 ((vG.cells a0).map LV.d)), (4, .box (g1 + 1) ((vG.cells (AA.mk (VoiceBook.mk (Sl.nil : (Sl AN)) 0 (Sl.nil : (Sl AE))) (Sl.nil : (Sl (Sl (Ar 5 Int)))) (Mp.nil : (Mp 2 (Sl (Ar 5 Int)))))).map LV.d)), (5, .box (g3 + 1 + 1 + 1) (AQ x9 low.length 12 (g3 + 1))), (6, .box (g18 + 1) [.d (.int x11)]), (7, .box g19 [Sl.lv v28]), (12, .mapo (g3 + 1) 2 (DK x26)), (16, .v (.d (.int a0.Boys.len))), (17, .v (.d (.int x11))), (23, .v (.fn 76 [] [.fptr (AA.lc x9 low.length 12 (g3 + 1)) 0, .d (.fptr [.int x11] 0), .d (.fptr [vG.enc a1] 0)]))]) hB 7 _ rfl (fun s ⟨q1, q2, q4, q5, q6, q7, q12, q16, q17, q23, _⟩ => ⟨(by rw [Ae, if_neg (by decide)]; exact q1), (by rw [Ae, if_neg (by decide)]; exact q2), (by rw [Ae, if_neg (by decide)]; exact q4), (by rw [Ae, if_neg (by decide)]; exact q5), (by rw [Ae, if_neg (by decide)]; exact q6), (by rw [Ae, if_pos rfl]), (by rw [Ae, if_neg (by decide)]; exact q12), (by rw [Ae, if_neg (by decide)]; exact q16), (by rw [Ae, if_neg (by decide)]; exact q17), (by rw [Ae, if_neg (by decide)]; exact q23), trivial⟩)
    obtain ⟨lw, hlow⟩ : ∃ q, q = (Bz (Bz lw low.length 7 (.box g19 [Sl.lv x25.spent])) low.length 7 (.box g19 [Sl.lv v28])) := ⟨_, rfl⟩
    rw [← hlow] at hl hB
    obtain ⟨m1, m2, m4, m5, m6, m7, m12, m16, m17, m23, -⟩ := G1.all hB
    have hlt : low.length < lw.length := by have := G1.len hB; omega
    obtain ⟨v30, h31, k5⟩ := uT k4
    obtain ⟨v32, h33, k6⟩ := uT k5
    have q35 := @HG
    have q36 := @FZ
    have q37 := @Eg
    have q38 := @I1
    have q39 := @Ix
    have q40 := @Hz
    have q41 := DY h31
    have q42 := CG h31 rfl rfl
    refine Ra hl hf ?_
    rintro g34 s ⟨r5, r6, r8, r12, r34, t7, -⟩ hl hf
    refine uh ?_
    obtain ⟨o46, l47, k7⟩ := uT k6
    refine A9 (f := DC x11 a24 v32) (E := fun (x : (List (List Int × (Sl (Ar 5 Int)))) × Int) s => Br [(5, .v (.ptr low.length 5 (g3 + 1 + 1 + 1) 0)), (6, .v (.ptr low.length 6 (g18 + 1) 0)), C_ 8 g27 a24, I_ 34 v32, I_ 35 x.2] s ∧ G1 Av low above lp [(1, .v (.d (vG.enc a1))), (2, .box g1 ((vG.cells a0).map LV.d)), (4, .box (g1 + 1) ((vG.cells (AA.mk (VoiceBook.mk (Sl.nil : (Sl AN)) 0 (Sl.nil : (Sl AE))) (Sl.nil : (Sl (Sl (Ar 5 Int)))) (Mp.nil : (Mp 2 (Sl (Ar 5 Int)))))).map LV.d)), (5, .box (g3 + 1 + 1 + 1) (AQ x9 low.length 12 (g3 + 1))), (6, .box (g18 + 1) [.d (.int x11)]), (7, .box g19 [Sl.lv v28]), (12, .mapo (g3 + 1) 2 (DK x.1)), (16, .v (.d (.int a0.Boys.len))), (17, .v (.d (.int x11))), (23, .v (.fn 76 [] [.fptr (AA.lc x9 low.length 12 (g3 + 1)) 0, .d (.fptr [.int x11] 0), .d (.fptr [vG.enc a1] 0)]))] s.low ∧ uY Av s) (Q := fun (y45 : (List (List Int × (Sl (Ar 5 Int))))) j s => j = .exit 4 ∧ Br [C_ 8 g27 a24] s ∧ G1 Av low above lp [(1, .v (.d (vG.enc a1))), (2, .box g1 ((vG.cells a0).map LV.d)), (4, .box (g1 + 1) ((vG.cells (AA.mk (VoiceBook.mk (Sl.nil : (Sl AN)) 0 (Sl.nil : (Sl AE))) (Sl.nil : (Sl (Sl (Ar 5 Int)))) (Mp.nil : (Mp 2 (Sl (Ar 5 Int)))))).map LV.d)), (5, .box (g3 + 1 + 1 + 1) (AQ x9 low.length 12 (g3 + 1))), (6, .box (g18 + 1) [.d (.int x11)]), (7, .box g19 [Sl.lv v28]), (12, .mapo (g3 + 1) 2 (DK y45)), (16, .v (.d (.int a0.Boys.len))), (17, .v (.d (.int x11))), (23, .v (.fn 76 [] [.fptr (AA.lc x9 low.length 12 (g3 + 1)) 0, .d (.fptr [.int x11] 0), .d (.fptr [vG.enc a1] 0)]))] s.low ∧ uY Av s) l47 ?_ ⟨⟨r5, r6, r8, r34, t7, trivial⟩, (by rw [hl]; exact hB), hf⟩ ?_
    ·rintro ⟨x43, x44⟩ s out ⟨⟨r5, r6, r8, r34, t7, -⟩, hB0, hf⟩ k8
     dsimp only at hB0 t7
     obtain ⟨lw, hl⟩ : ∃ l, s.low = l := ⟨_, rfl⟩
     rw [hl] at hB0
     have hB := hB0
     obtain ⟨m1, m2, m4, m5, m6, m7, m12, m16, m17, m23, -⟩ := G1.all hB
     have hlt : low.length < lw.length := by have := G1.len hB; omega
     simp only [DC] at k8
     refine gY (B := Av) (low := lw) [(5, .v (.ptr low.length 5 (g3 + 1 + 1 + 1) 0)), (6, .v (.ptr low.length 6 (g18 + 1) 0)), C_ 8 g27 a24, I_ 34 v32, I_ 35 x44, B_ 36 (decide (x44 < v32))] hl hf ?_ ?_
     ·simp only [rs, hl, uD hf, r5, r6, r8, r34, t7, m1, m2, m4, m5, m6, m7, m12, m16, m17, m23, hlt, reduceCtorEq, Nat.reduceEqDiff, Nat.reduceAdd]
     rintro s ⟨r5, r6, r8, r34, t7, r36, -⟩ hl hf
     refine E2 r36 k8 (fun c48 k8 => ?_) fun c48 k8 => ?_
     ·refine uh <| gY (B := Av) (low := lw) [(5, .v (.ptr low.length 5 (g3 + 1 + 1 + 1) 0)), (6, .v (.ptr low.length 6 (g18 + 1) 0)), C_ 8 g27 a24, I_ 9 x44, I_ 34 v32, I_ 35 x44] hl hf ?_ ?_
      ·simp only [rs, hl, uD hf, r5, r6, r8, r34, t7, r36, m1, m2, m4, m5, m6, m7, m12, m16, m17, m23, hlt, reduceCtorEq, Nat.reduceEqDiff, Nat.reduceAdd]
      rintro s ⟨r5, r6, r8, r9, r34, t7, -⟩ hl hf
      refine gY (B := Av) (low := lw) [(5, .v (.ptr low.length 5 (g3 + 1 + 1 + 1) 0)), (6, .v (.ptr low.length 6 (g18 + 1) 0)), C_ 8 g27 a24, C_ 10 (s.ctr + 1 + 1 + 1) (Aa.mk x11 x44), I_ 34 v32, I_ 35 x44] hl hf ?_ ?_
      ·simp only [rs, ps, List.length_cons, List.length_nil, Iq, Xd, HG, cC, FZ, Eg, I1, Ix, Hz, cG, hl, uD hf, r5, r6, r8, r9, r34, t7, m1, m2, m4, m5, m6, m7, m12, m16, m17, m23, hlt, reduceCtorEq, Nat.reduceEqDiff, Nat.reduceAdd]
      generalize s.ctr + 1 + 1 + 1 = g49
      rintro s ⟨r5, r6, r8, r10, r34, t7, -⟩ hl hf
      refine gY (B := Av) (low := lw) [(5, .v (.ptr low.length 5 (g3 + 1 + 1 + 1) 0)), (6, .v (.ptr low.length 6 (g18 + 1) 0)), C_ 8 g27 a24, C_ 10 g49 (Aa.mk x11 x44), I_ 34 v32, I_ 35 x44, B_ 43 (!(decide (BZ.key (Aa.mk x11 x44) = BZ.key (Aa.mk (-1) (-1)))))] hl hf ?_ ?_
      ·simp only [rs, ps, IX, IQ, hl, uD hf, r5, r6, r8, r10, r34, t7, m1, m2, m4, m5, m6, m7, m12, m16, m17, m23, hlt, py, reduceCtorEq, Nat.reduceEqDiff, Nat.reduceAdd]
      rintro s ⟨r5, r6, r8, r10, r34, t7, r43, -⟩ hl hf
      refine NF r43 k8 (fun c50 k8 => ?_) fun c50 k8 => ?_
      ·refine gY (B := Av) (low := lw) [(5, .v (.ptr low.length 5 (g3 + 1 + 1 + 1) 0)), (6, .v (.ptr low.length 6 (g18 + 1) 0)), C_ 8 g27 a24, I_ 34 v32, I_ 35 (W (x44 + 1))] hl hf ?_ ?_
       ·simp only [rs, hl, uD hf, r5, r6, r8, r10, r34, t7, r43, m1, m2, m4, m5, m6, m7, m12, m16, m17, m23, hlt, reduceCtorEq, Nat.reduceEqDiff, Nat.reduceAdd]
       rintro s ⟨r5, r6, r8, r34, t7, -⟩ hl hf
       obtain rfl := oK k8
       exact ⟨rfl, ⟨r5, r6, r8, r34, t7, trivial⟩, (by rw [hl]; exact hB), hf⟩
      obtain ⟨v51, h52, k9⟩ := uT k8
      refine regS (B := Av) (low := lw) (Q := fun q => q = (Bz (Bz lw low.length 12 (.mapo (g3 + 1) 2 (DK (EY (Sl.nil : (Sl (Ar 5 Int))) E5.coolE x43 (BZ.key (Aa.mk x11 x44)))))) low.length 12 (.mapo (g3 + 1) 2 (DK (EI x43 (BZ.key (Aa.mk x11 x44)) v51))))) [(5, .v (.ptr low.length 5 (g3 + 1 + 1 + 1) 0)), (6, .v (.ptr low.length 6 (g18 + 1) 0)), C_ 8 g27 a24, I_ 34 v32, I_ 35 x44] hl hf ?_ ?_
      ·simp only [rs, ps, BQ, Ov, GR, HG, FZ, Eg, I1, Md, ne_eq, not_false_eq_true, Cj, Ix, IH, Hz, LE, hl, uD hf, r5, r6, r8, r10, r34, t7, r43, m1, m2, m4, m5, m6, m7, m12, m16, m17, m23, hlt, (Qd (n := 2) (Aa.mk x11 x44) rfl (by decide)), (Y4 (LP := zL) (j := low.length) (t := 12) (gm := g3 + 1) (key := (BZ.key (Aa.mk x11 x44))) (es := x43) (z := (Sl.nil : (Sl (Ar 5 Int)))) (hz := rfl)), (Zo (LP := zL) (a := (LH (Sl.nil : (Sl (Ar 5 Int))) x43 (BZ.key (Aa.mk x11 x44)))) (y := .d (.int (Fg x43 (BZ.key (Aa.mk x11 x44)))))), (GQ (sz := 5) (x := (LH (Sl.nil : (Sl (Ar 5 Int))) x43 (BZ.key (Aa.mk x11 x44)))) (y := (Sl.cold [a24] : Sl (Ar 5 Int))) rfl rfl h52), (Oz (LP := zL) (x := Sl.lv (Sl.spent (LH (Sl.nil : (Sl (Ar 5 Int))) x43 (BZ.key (Aa.mk x11 x44))))) (y := .int (Fg x43 (BZ.key (Aa.mk x11 x44))))), (Vj (LP := zL) (j := low.length) (t := 12) (gm := g3 + 1) (key := (BZ.key (Aa.mk x11 x44))) (es := x43) (z := (Sl.nil : (Sl (Ar 5 Int)))) (a := v51)), reduceCtorEq, Nat.reduceEqDiff, Nat.reduceAdd]
      rintro s ⟨r5, r6, r8, r34, t7, -⟩ hl hf
      replace hl : s.low = (Bz (Bz lw low.length 12 (.mapo (g3 + 1) 2 (DK (EY (Sl.nil : (Sl (Ar 5 Int))) E5.coolE x43 (BZ.key (Aa.mk x11 x44)))))) low.length 12 (.mapo (g3 + 1) 2 (DK (EI x43 (BZ.key (Aa.mk x11 x44)) v51)))) := hl
      replace hB := G1.set (l' := [(1, .v (.d (vG.enc a1))), (2, .box g1 ((vG.cells a0).map LV.d)), (4, .box (g1 + 1) ((vG.cells (AA.mk (VoiceBook.mk (Sl.nil : (Sl AN)) 0 (Sl.nil : (Sl AE))) (Sl.nil : (Sl (Sl (Ar 5 Int)))) (Mp.nil : (Mp 2 (Sl (Ar 5 Int)))))).map LV.d)), (5, .box (g3 + 1 + 1 + 1) (AQ x9 low.length 12 (g3 + 1))), (6, .box (g18 + 1) [.d (.int x11)]), (7, .box g19 [Sl.lv v28]), (12, .mapo (g3 + 1) 2 (DK (EY (Sl.nil : (Sl (Ar 5 Int))) E5.coolE x43 (BZ.key (Aa.mk x11 x44))))), (16, .v (.d (.int a0.Boys.len))), (17, .v (.d (.int x11))), (23, .v (.fn 76 [] [.fptr (AA.lc x9 low.length 12 (g3 + 1)) 0, .d (.fptr [.int x11] 0), .d (.fptr [vG.enc a1] 0)]))]) hB 12 _ rfl (fun s ⟨q1, q2, q4, q5, q6, q7, q12, q16, q17, q23, _⟩ => ⟨(by rw [Ae, if_neg (by decide)]; exact q1), (by rw [Ae, if_neg (by decide)]; exact q2), (by rw [Ae, if_neg (by decide)]; exact q4), (by rw [Ae, if_neg (by decide)]; exact q5), (by rw [Ae, if_neg (by decide)]; exact q6), (by rw [Ae, if_neg (by decide)]; exact q7), (by rw [Ae, if_pos rfl]), (by rw [Ae, if_neg (by decide)]; exact q16), (by rw [Ae, if_neg (by decide)]; exact q17), (by rw [Ae, if_neg (by decide)]; exact q23), trivial⟩)
      replace hB := G1.set (l' := [(1, .v (.d (vG.enc a1))), (2, .box g1 ((vG.cells a0).map LV.d)), (4, .box (g1 + 1) ((vG.cells (AA.mk (VoiceBook.mk (Sl.nil : (Sl AN)) 0 (Sl.nil : (Sl AE))) (Sl.nil : (Sl (Sl (Ar 5 Int)))) (Mp.nil : (Mp 2 (Sl (Ar 5 Int)))))).map LV.d)), (5, .box (g3 + 1 + 1 + 1) (AQ x9 low.length 12 (g3 + 1))), (6, .box (g18 + 1) [.d (.int x11)]), (7, .box g19 [Sl.lv v28]), (12, .mapo (g3 + 1) 2 (DK (EI x43 (BZ.key (Aa.mk x11 x44)) v51))), (16, .v (.d (.int a0.Boys.len))), (17, .v (.d (.int x11))), (23, .v (.fn 76 [] [.fptr (AA.lc x9 low.length 12 (g3 + 1)) 0, .d (.fptr [.int x11] 0), .d (.fptr [vG.enc a1] 0)]))]) hB 12 _ rfl (fun s ⟨q1, q2, q4, q5, q6, q7, q12, q16, q17, q23, _⟩ => ⟨(by rw [Ae, if_neg (by decide)]; exact q1), (by rw [Ae, if_neg (by decide)]; exact q2), (by rw [Ae, if_neg (by decide)]; exact q4), (by rw [Ae, if_neg (by decide)]; exact q5), (by rw [Ae, if_neg (by decide)]; exact q6), (by rw [Ae, if_neg (by decide)]; exact q7), (by rw [Ae, if_pos rfl]), (by rw [Ae, if_neg (by decide)]; exact q16), (by rw [Ae, if_neg (by decide)]; exact q17), (by rw [Ae, if_neg (by decide)]; exact q23), trivial⟩)
      obtain ⟨lw, hlow⟩ : ∃ q, q = (Bz (Bz lw low.length 12 (.mapo (g3 + 1) 2 (DK (EY (Sl.nil : (Sl (Ar 5 Int))) E5.coolE x43 (BZ.key (Aa.mk x11 x44)))))) low.length 12 (.mapo (g3 + 1) 2 (DK (EI x43 (BZ.key (Aa.mk x11 x44)) v51)))) := ⟨_, rfl⟩
      rw [← hlow] at hl hB
      obtain ⟨m1, m2, m4, m5, m6, m7, m12, m16, m17, m23, -⟩ := G1.all hB
      have hlt : low.length < lw.length := by have := G1.len hB; omega
      refine gY (B := Av) (low := lw) [(5, .v (.ptr low.length 5 (g3 + 1 + 1 + 1) 0)), (6, .v (.ptr low.length 6 (g18 + 1) 0)), C_ 8 g27 a24, I_ 34 v32, I_ 35 (W (x44 + 1))] hl hf ?_ ?_
      ·simp only [rs, hl, uD hf, r5, r6, r8, r34, t7, m1, m2, m4, m5, m6, m7, m12, m16, m17, m23, hlt, reduceCtorEq, Nat.reduceEqDiff, Nat.reduceAdd]
      rintro s ⟨r5, r6, r8, r34, t7, -⟩ hl hf
      obtain rfl := oK k9
      exact ⟨rfl, ⟨r5, r6, r8, r34, t7, trivial⟩, (by rw [hl]; exact hB), hf⟩
     obtain rfl := oK k8
     exact ⟨by decide, ⟨rfl, ⟨r8, trivial⟩, (by rw [hl]; exact hB), hf⟩⟩
    intro j s hq
    obtain ⟨y45, rfl⟩ : ∃ x, x = o46 := ⟨_, rfl⟩
    try dsimp only at k7 hq
    obtain ⟨rfl, ⟨r8, -⟩, hB0, hf⟩ := hq
    obtain ⟨lw, hl⟩ : ∃ l, s.low = l := ⟨_, rfl⟩
    rw [hl] at hB0
    have hB := hB0
    obtain ⟨m1, m2, m4, m5, m6, m7, m12, m16, m17, m23, -⟩ := G1.all hB
    have hlt : low.length < lw.length := by have := G1.len hB; omega
    obtain rfl := oK k7
    exact ⟨rfl, rfl, by rw [hl]; exact Lq hB (fun s ⟨q1, q2, q4, q5, q6, q7, q12, q16, q17, q23, _⟩ => ⟨q1, q2, q4, q5, q6, q7, q12, q16, q17, q23, trivial⟩)⟩
   ·intro s hl hf hq
    rcases o53 with ⟨y55, y56⟩ | _
    ·try dsimp only at k10 hq
     obtain ⟨r1, r2, r4, r5, r6, r7, r12, r16, r17, uV, -⟩ := hq
     refine jp ?_
     obtain ⟨v57, h58, k11⟩ := uT k10
     have q60 := @QY
     have q62 := GQ (sz := 1) (x := x9.truths.unf) (y := (Sl.cold [y55] : Sl (Sl (Ar 5 Int)))) rfl rfl h58
     refine Ra hl hf ?_ (h := by intro c; simp only [(cO (LP := zL) (j := low.length) (t := 5) (gb := g3 + 1 + 1 + 1) (off := 3) (cs := (AQ x9 low.length 12 (g3 + 1))) (cs' := (AQ (AA.mk x9.VoiceBook x9.truths.cool x9.whole) low.length 12 (g3 + 1))) (x := x9.truths) (hx := rfl) (hc := LZ x9 _ _ _)), (Ln (eM h58 (by simp))), rt, ps, uD hf, *, reduceCtorEq, Nat.reduceEqDiff, Nat.reduceAdd, Nat.reduceMul] <;> rfl)
     rintro g59 s ⟨r1, r2, r4, r5, r12, r16, r17, -⟩ hl hf
     refine Ra hl hf ?_
     rintro g64 s ⟨r1, r2, r4, r5, r12, r16, r17, -⟩ hl hf
     obtain rfl := oK k11
     exact ⟨rfl, ⟨r1, r2, r4, r5, r12, r16, r17, trivial⟩, hl, hf⟩
    ·cases k10
  obtain rfl := oK k2
  exact ⟨by decide, ⟨rfl, ⟨r2, r4, r5, r12, trivial⟩, hl, hf⟩⟩
 intro j s hq
 obtain ⟨y12, y13⟩ := uC
 try dsimp only at k1 hq
 obtain ⟨rfl, ⟨r2, r4, r5, r12, -⟩, hl, hf⟩ := hq
 have q66 := @JV
 have q67 := @Ge
 have q68 := @Fe
 refine Ra hl hf ?_
 rintro g65 s ⟨r4, r12, -⟩ hl hf
 cases oK k1
 exact ⟨Or.inr rfl, hl, AO (QV (by rw [hl]; exact r4) r12)⟩
def mP := fun a0 a1 => Cq.mk (@GH a0 a1)
end Go.Lf
