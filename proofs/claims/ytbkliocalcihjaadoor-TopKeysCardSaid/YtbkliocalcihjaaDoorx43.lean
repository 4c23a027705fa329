/- A part of the proof. -/
import Derived.Test.YtbkliocalcihjaaDoorx20
import Derived.Test.YtbkliocalcihjaaDoorx22
set_option linter.all false
set_option maxHeartbeats 9999999
namespace Go.Lf
open Go
theorem It (a0 : Int) (a1 : Int) (a2 : Int) : zj zL 19 [.int a0, .int a1, .int a2] (.bool (Ab a0 a1 a2)) := by
 refine fnN YI JX ?_
 rintro low s r hl hf
 refine Ra hl hf ?_
 rintro g1 s r hl hf
 refine Rx (fun g4 => [B_ 6 ((decide (a1 ≤ a0)) && (decide (a0 ≤ a2)))]) hl hf ?_
 rintro g4 s r hl hf
 exact ⟨Or.inr rfl, hl, AS (AZ r.1)⟩
def Dq := fun a0 a1 a2 => (It a0 a1 a2).call
theorem Wl (a0 : BJ) (a1 : Int) (a2 : Int) : zj zL 20 [Enc.enc a0, .int a1, .int a2] (.bool (Aq a0 a1 a2)) := by
 refine fnN X4 JU ?_
 rintro low s r hl hf
 refine Ra hl hf ?_
 rintro g1 s r hl hf
 refine Rx (fun g6 => [B_ 6 ((decide (0 ≤ a0.Low)) && ((decide (a0.Low ≤ a0.High)) && ((decide (a0.High ≤ a1)) && (decide ((W (a0.High - a0.Low)) ≤ a2)))))]) hl hf ?_
 rintro g6 s r hl hf
 exact ⟨Or.inr rfl, hl, AS (AZ r.1)⟩
def Ye := fun a0 a1 a2 => (Wl a0 a1 a2).call
theorem YP (a0 : VoiceBook) (a1 : Int) : zj zL 44 [Enc.enc a0, .int a1] (.bool (CZ a0 a1)) := by
 refine fnN cQ KU ?_
 rintro low s r hl hf
 have q3 := @Dq
 refine Ra hl hf ?_
 rintro g1 s r hl hf
 refine Ra hl hf ?_
 rintro g2 s r hl hf
 exact ⟨Or.inr rfl, hl, AS (AZ r.1)⟩
def Pm := fun a0 a1 => (YP a0 a1).call
theorem Vh (a0 : VoiceBook) (a1 : Int) : zj zL 45 [Enc.enc a0, .int a1] (.bool (B0 a0 a1)) := by
 refine fnN Xp Ja ?_
 rintro low s r hl hf
 have q3 := @Dq
 refine Ra hl hf ?_
 rintro g1 s r hl hf
 refine Ra hl hf ?_
 rintro g2 s r hl hf
 exact ⟨Or.inr rfl, hl, AS (AZ r.1)⟩
def Nu := fun a0 a1 => (Vh a0 a1).call
theorem V6 (a0 : Int) : zj zL 46 [.int a0] (.bool (BP a0)) := by
 refine fnN W9 Jk ?_
 rintro low s r hl hf
 have q3 := @Dq
 refine Ra hl hf ?_
 rintro g1 s r hl hf
 refine Ra hl hf ?_
 rintro g2 s r hl hf
 exact ⟨Or.inr rfl, hl, AS (AZ r.1)⟩
def Nz := fun a0 => (V6 a0).call
theorem Su (a0 : VoiceBook) (a1 : AI) : zj zL 21 [Enc.enc a0, Enc.enc a1] (.bool (DX a0 a1)) := by
 refine fnN Vs I0 ?_
 rintro low s r hl hf
 have q7 := @Pm
 have q8 := @Nz
 have q9 := @Nu
 have q10 := @Dq
 refine Ra hl hf ?_
 rintro g1 s r hl hf
 refine Rx (fun g6 => [B_ 4 ((CZ a0 a1.Boy) && ((B0 a0 a1.Week) && ((BP a1.Note) && (Ab a1.Sang 0 1))))]) hl hf ?_
 rintro g6 s r hl hf
 exact ⟨Or.inr rfl, hl, AS (AZ r.1)⟩
def WP := fun a0 a1 => (Su a0 a1).call
theorem Xb {a0 : VoiceBook} {r : Int} (k0 : Bo a0 = some r) : zj zL 4 [Enc.enc a0] (.int r) := by
 unfold Bo at k0; replace k0 := kq k0
 refine fnN GV KG ?_
 rintro low s r hl hf
 have q49 := @Ye
 have q50 := @WP
 have q51 := @Dq
 refine Ra hl hf ?_
 rintro g1 s r hl hf
 refine Rx (fun g5 => [B_ 3 ((Ab a0.Boys.len 1 4) && ((Ab a0.Weeks 1 6) && (decide (a0.Trials.len ≤ 6))))]) hl hf ?_
 rintro g5 s r hl hf
 refine Ra hl hf ?_
 rintro g6 s r hl hf
 refine blk ?_
 obtain ⟨o10, l11, k1⟩ := bnk k0
 refine Bf (f := Dh a0) (E := fun (x : Bool × Int) s => Em [C_ 1 g1 a0, B_ 3 x.1, E_ 24 a0.Boys, I_ 25 a0.Boys.len, I_ 26 x.2] s ∧ s.low = low ∧ NoB GV s) (Q := fun (y9 : Bool) j s => j = .exit 0 ∧ Em [C_ 1 g1 a0, B_ 3 y9] s ∧ s.low = low ∧ NoB GV s) l11 ?_ ⟨r, hl, hf⟩ ?_
 ·rintro ⟨x7, x8⟩ s out ⟨r, hl, hf⟩ k2
  dsimp only at r
  simp only [Dh] at k2
  refine Ra hl hf ?_
  rintro g12 s r hl hf
  refine IJ r.2.2.2.2.2.1 k2 (fun c13 k2 => ?_) fun c13 k2 => ?_
  ·refine blk ?_
   obtain ⟨v14, h15, k3⟩ := bnk k2
   refine Ra hl hf ?_
   rintro g16 s r hl hf
   refine Rx (fun g20 => [B_ 3 (x7 && ((Aq v14.Low 40 2) && (Aq v14.High 40 2)))]) hl hf ?_
   rintro g20 s r hl hf
   refine Rx (fun g24 => [B_ 3 ((x7 && ((Aq v14.Low 40 2) && (Aq v14.High 40 2))) && ((Aq v14.Gain 2 1) && (Ab v14.Loss 0 2)))]) hl hf ?_
   rintro g24 s r hl hf
   refine Rx (fun g28 => [B_ 3 (((x7 && ((Aq v14.Low 40 2) && (Aq v14.High 40 2))) && ((Aq v14.Gain 2 1) && (Ab v14.Loss 0 2))) && ((Aq v14.Turn 6 2) && (Aq v14.Break 9 3)))]) hl hf ?_
   rintro g28 s r hl hf
   refine Ra hl hf ?_
   rintro g29 s r hl hf
   obtain rfl := oK k3
   exact ⟨rfl, r, hl, hf⟩
  obtain rfl := oK k2
  exact ⟨by decide, ⟨rfl, ⟨r.1, r.2.1, trivial⟩, hl, hf⟩⟩
 intro j s hq
 obtain ⟨y9, rfl⟩ : ∃ x, x = o10 := ⟨_, rfl⟩
 try dsimp only at k1 hq
 obtain ⟨rfl, r, hl, hf⟩ := hq
 refine Ra hl hf ?_
 rintro g30 s r hl hf
 refine blk ?_
 obtain ⟨o34, l35, k4⟩ := bnk k1
 refine Bf (f := Dj a0) (E := fun (x : Bool × Int) s => Em [C_ 1 g1 a0, B_ 3 x.1, E_ 65 a0.Trials, I_ 66 a0.Trials.len, I_ 67 x.2] s ∧ s.low = low ∧ NoB GV s) (Q := fun (y33 : Bool) j s => j = .exit 2 ∧ Em [C_ 1 g1 a0, B_ 3 y33] s ∧ s.low = low ∧ NoB GV s) l35 ?_ ⟨r, hl, hf⟩ ?_
 ·rintro ⟨x31, x32⟩ s out ⟨r, hl, hf⟩ k5
  dsimp only at r
  simp only [Dj] at k5
  refine Ra hl hf ?_
  rintro g36 s r hl hf
  refine IJ r.2.2.2.2.2.1 k5 (fun c37 k5 => ?_) fun c37 k5 => ?_
  ·refine blk ?_
   obtain ⟨v38, h39, k6⟩ := bnk k5
   refine Ra hl hf ?_
   rintro g40 s r hl hf
   refine Rx (fun g43 => [B_ 3 (x31 && (DX a0 v38))]) hl hf ?_
   rintro g43 s r hl hf
   refine Ra hl hf ?_
   rintro g44 s r hl hf
   obtain rfl := oK k6
   exact ⟨rfl, r, hl, hf⟩
  obtain rfl := oK k5
  exact ⟨by decide, ⟨rfl, ⟨r.1, r.2.1, trivial⟩, hl, hf⟩⟩
 intro j s hq
 obtain ⟨y33, rfl⟩ : ∃ x, x = o34 := ⟨_, rfl⟩
 try dsimp only at k4 hq
 obtain ⟨rfl, r, hl, hf⟩ := hq
 refine Ra hl hf ?_
 rintro g45 s r hl hf
 refine Rz r.1 k4 (fun c46 k4 => ?_) fun c46 k4 => ?_
 ·refine Ra hl hf ?_
  rintro g47 s r hl hf
  cases oK k4
  exact ⟨Or.inr rfl, hl, AS (AZ r.1)⟩
 refine Ra hl hf ?_
 rintro g48 s r hl hf
 cases oK k4
 exact ⟨Or.inr rfl, hl, AS (AZ r.1)⟩
def Gl := fun a0 => Cq.mk (@Xb a0)
theorem Zi (a0 : Int) (a1 : Int) (a2 : Int) : zj zL 5 [.int a0, .int a1, .int a2] (.bool (HB a0 a1 a2)) := by
 refine fnN eN cx ?_
 rintro low s r hl hf
 refine Ra hl hf ?_
 rintro g1 s r hl hf
 refine Rx (fun g4 => [B_ 6 ((decide (a1 ≤ a0)) && (decide (a0 ≤ a2)))]) hl hf ?_
 rintro g4 s r hl hf
 exact ⟨Or.inr rfl, hl, AS (AZ r.1)⟩
def fD := fun a0 a1 a2 => (Zi a0 a1 a2).call
theorem UP (a0 : Int) (a1 : Int) : zj zL 8 [.int a0, .int a1] (Enc.enc (Ac a0 a1)) := by
 refine fnN XH Jf ?_
 rintro low s r hl hf
 have q2 := @ZJ
 refine Ra hl hf ?_
 rintro g1 s r hl hf
 have q4 := @H2
 refine Ra hl hf ?_
 rintro g3 s r hl hf
 exact ⟨Or.inr rfl, hl, AS (Be r.1 rfl)⟩
def He := fun a0 a1 => (UP a0 a1).call
theorem Z8 (a0 : Int) : zj zL 14 [.int a0] (Enc.enc (D5 a0)) := by
 refine fnN eE MU ?_
 rintro low s r hl hf
 have q2 := @ZJ
 refine Ra hl hf ?_
 rintro g1 s r hl hf
 have q4 := @H2
 refine Ra hl hf ?_
 rintro g3 s r hl hf
 exact ⟨Or.inr rfl, hl, AS (Be r.1 rfl)⟩
def MK := fun a0 => (Z8 a0).call
theorem W0 : zj zL 22 [] (Enc.enc (Bq)) := by
 refine fnN cF LD ?_
 rintro low s - hl hf
 have q4 := @He
 have q5 := @MK
 have q2 := @iU
 refine Ra hl hf ?_
 rintro g1 s r hl hf
 refine Ra hl hf ?_
 rintro g3 s r hl hf
 exact ⟨Or.inr rfl, hl, AS (Be r.1 rfl)⟩
def Zx := W0.call
theorem Xk (a0 : VoiceBook) (a1 : Int) : zj zL 10 [Enc.enc a0, .int a1] (Enc.enc (AG a0 a1)) := by
 refine fnN am bZ ?_
 rintro low s r hl hf
 have q2 := @iD
 refine Ra hl hf ?_
 rintro g1 s r hl hf
 have q4 := @YK
 refine Ra hl hf ?_
 rintro g3 s r hl hf
 exact ⟨Or.inr rfl, hl, AS (Be r.1 rfl)⟩
def PS := fun a0 a1 => (Xk a0 a1).call
theorem Ip (a0 : Int) (a1 : Int) (a2 : Int) : zj zL 30 [.int a0, .int a1, .int a2] (.bool (Aj a0 a1 a2)) := by
 refine fnN XL JW ?_
 rintro low s r hl hf
 refine Ra hl hf ?_
 rintro g1 s r hl hf
 refine Rx (fun g4 => [B_ 6 ((decide (a1 ≤ a0)) && (decide (a0 ≤ a2)))]) hl hf ?_
 rintro g4 s r hl hf
 exact ⟨Or.inr rfl, hl, AS (AZ r.1)⟩
def Ek := fun a0 a1 a2 => (Ip a0 a1 a2).call
theorem Wj (a0 : OrganBook) (a1 : AC) : zj zL 33 [Enc.enc a0, Enc.enc a1] (.bool (JD a0 a1)) := by
 refine fnN Yc XQ ?_
 rintro low s r hl hf
 have q7 := @Ek
 refine Ra hl hf ?_
 rintro g1 s r hl hf
 refine Rx (fun g6 => [B_ 4 ((Aj a1.Boy 0 (W (a0.Voice.Boys.len - 1))) && ((decide (0 ≤ a1.Notes.Low)) && ((decide (a1.Notes.Low ≤ a1.Notes.High)) && (decide (a1.Notes.High ≤ 40)))))]) hl hf ?_
 rintro g6 s r hl hf
 exact ⟨Or.inr rfl, hl, AS (AZ r.1)⟩
def Yi := fun a0 a1 => (Wj a0 a1).call
theorem PL {low : List Fr} (a0 : AC) (a1x : OrganBook) {pja1 : Nat} {pta1 : Nat} {pga1 : Nat} (ba1 : JH low pja1 pta1 = some (.box pga1 ((Enc.cells a1x).map LV.d))) : Ou zL 32 [.d (Enc.enc a0), .ptr pja1 pta1 pga1 0] low (.d (.bool (E3 a0 a1x))) := by
 refine nM VO Ug ?_
 rintro s r hl hf
 have q4 := @Yi
 refine Ra hl hf ?_
 rintro g1 s r hl hf
 have q3 := PO ba1
 refine Ra hl hf ?_
 rintro g2 s r hl hf
 exact ⟨Or.inr rfl, hl, AS (AZ r.1)⟩
theorem EV {low : List Fr} {a0 : (Sl AC)} {a1c0x : OrganBook} {pja1c0 : Nat} {pta1c0 : Nat} {pga1c0 : Nat} (ba1c0 : JH low pja1c0 pta1c0 = some (.box pga1c0 ((Enc.cells a1c0x).map LV.d))) {r : Int} (k0 : Am a0 a1c0x = some r) : Ou zL 55 [.d (Enc.enc a0), .fn 32 [] [.ptr pja1c0 pta1c0 pga1c0 0]] low (.d (.int r)) := by
 unfold Am at k0; replace k0 := kq k0
 refine nM BN CM ?_
 rintro s r hl hf
 refine Ra hl hf ?_
 rintro g1 s r hl hf
 refine Ra hl hf ?_
 rintro g2 s r hl hf
 refine blk ?_
 obtain ⟨o5, l6, k1⟩ := bnk k0
 refine Bf (f := AY a0 a1c0x) (E := fun (x : Int) s => Em [E_ 0 a0, (1, .v (.fn 32 [] [.ptr pja1c0 pta1c0 pga1c0 0])), I_ 7 a0.len, I_ 8 x] s ∧ s.low = low ∧ NoB BN s) (Q := fun (o : ((Int) ⊕ (Unit))) j s => match o with | .inl w4 => j = .ret ∧ FnJ CM.1 low (.d (.int w4)) .ret s | .inr _ => j = .exit 0 ∧ Em [] s ∧ s.low = low ∧ NoB BN s) l6 ?_ ⟨r, hl, hf⟩ ?_
 ·rintro x3 s out ⟨r, hl, hf⟩ k2
  unfold AY at k2
  refine Ra hl hf ?_
  rintro g7 s r hl hf
  refine IJ r.2.2.2.2.1 k2 (fun c8 k2 => ?_) fun c8 k2 => ?_
  ·refine blk <| Ra hl hf ?_
   rintro g9 s r hl hf
   obtain ⟨v10, h11, k3⟩ := bnk k2
   have f12 : ∀ (e : Env) (c : Nat), (om zL).call 32 [.d (Enc.enc v10), .ptr pja1c0 pta1c0 pga1c0 0] (low ++ [⟨e, none⟩]) c = some (.d (.bool ((E3 v10 a1c0x))), low ++ [⟨e, none⟩], f8 zL 32 [.d (Enc.enc v10), .ptr pja1c0 pta1c0 pga1c0 0] (low ++ [⟨e, none⟩]) c) := fun e c => Ou.om (PL v10 a1c0x (Ve ba1c0)) c
   have q14 := @f12
   refine Ra hl hf ?_
   rintro g13 s r hl hf
   refine IJ r.2.2.2.2.2.1 k3 (fun c15 k3 => ?_) fun c15 k3 => ?_
   ·refine Ra hl hf ?_
    rintro g16 s r hl hf
    obtain rfl := oK k3
    exact ⟨by decide, ⟨rfl, ⟨Or.inr rfl, hl, AS (AZ r.1)⟩⟩⟩
   refine Ra hl hf ?_
   rintro g17 s r hl hf
   obtain rfl := oK k3
   exact ⟨rfl, r, hl, hf⟩
  obtain rfl := oK k2
  exact ⟨by decide, ⟨rfl, trivial, hl, hf⟩⟩
 intro j s hq
 rcases o5 with w4 | _
 ·try dsimp only at k1 hq
  obtain ⟨rfl, hq⟩ := hq
  cases oK k1
  exact hq
 try dsimp only at k1 hq
 obtain ⟨rfl, -, hl, hf⟩ := hq
 refine Ra hl hf ?_
 rintro g18 s r hl hf
 cases oK k1
 exact ⟨Or.inr rfl, hl, AS (AZ r.1)⟩
theorem D7 {low : List Fr} {a0 : (Sl AC)} {a1c0x : OrganBook} {pja1c0 : Nat} {pta1c0 : Nat} {pga1c0 : Nat} (ba1c0 : JH low pja1c0 pta1c0 = some (.box pga1c0 ((Enc.cells a1c0x).map LV.d))) {r : Bool} (k0 : AX a0 a1c0x = some r) : Ou zL 31 [.d (Enc.enc a0), .fn 32 [] [.ptr pja1c0 pta1c0 pga1c0 0]] low (.d (.bool r)) := by
 unfold AX at k0; replace k0 := kq k0
 refine nM Ec EU ?_
 rintro s r hl hf
 refine Ra hl hf ?_
 rintro g1 s r hl hf
 obtain ⟨v2, h3, k1⟩ := bnk k0
 have f4 : ∀ (e : Env) (c : Nat), (om zL).call 55 [.d (Enc.enc a0), .fn 32 [] [.ptr pja1c0 pta1c0 pga1c0 0]] (low ++ [⟨e, none⟩]) c = some (.d (.int (v2)), low ++ [⟨e, none⟩], f8 zL 55 [.d (Enc.enc a0), .fn 32 [] [.ptr pja1c0 pta1c0 pga1c0 0]] (low ++ [⟨e, none⟩]) c) := fun e c => Ou.om (EV (Ve ba1c0) h3) c
 have q6 := @f4
 refine Ra hl hf ?_
 rintro g5 s r hl hf
 cases oK k1
 exact ⟨Or.inr rfl, hl, AS (AZ r.1)⟩
theorem WU (a0 : OrganBook) (a1 : Int) : zj zL 51 [Enc.enc a0, .int a1] (.bool (ED a0 a1)) := by
 refine fnN XO JM ?_
 rintro low s r hl hf
 have q3 := @Ek
 refine Ra hl hf ?_
 rintro g1 s r hl hf
 refine Ra hl hf ?_
 rintro g2 s r hl hf
 exact ⟨Or.inr rfl, hl, AS (AZ r.1)⟩
def Ny := fun a0 a1 => (WU a0 a1).call
theorem WE (a0 : OrganBook) (a1 : BO) : zj zL 72 [Enc.enc a0, Enc.enc a1] (.bool (MB a0 a1)) := by
 refine fnN W5 Je ?_
 rintro low s r hl hf
 have q8 := @Ny
 have q9 := @Ek
 refine Ra hl hf ?_
 rintro g1 s r hl hf
 refine Rx (fun g7 => [B_ 4 ((ED a0 a1.From) && ((ED a0 a1.To) && (!(decide (a1.From = a1.To)) && ((Aj a1.Off (-30) 30) && (Aj a1.Error 0 5)))))]) hl hf ?_
 rintro g7 s r hl hf
 exact ⟨Or.inr rfl, hl, AS (AZ r.1)⟩
def Xw := fun a0 a1 => (WE a0 a1).call
theorem Wg (a0 : OrganBook) (a1 : BB) : zj zL 73 [Enc.enc a0, Enc.enc a1] (.bool (Hm a0 a1)) := by
 refine fnN XU Jb ?_
 rintro low s r hl hf
 have q6 := @Ny
 have q7 := @Ek
 refine Ra hl hf ?_
 rintro g1 s r hl hf
 refine Rx (fun g5 => [B_ 4 ((ED a0 a1.Pipe) && ((Aj a1.Read (-60) 60) && (Aj a1.Error 0 5)))]) hl hf ?_
 rintro g5 s r hl hf
 exact ⟨Or.inr rfl, hl, AS (AZ r.1)⟩
def X3 := fun a0 a1 => (Wg a0 a1).call
theorem X2 {a0 : OrganBook} {r : Int} (k0 : F3 a0 = some r) : zj zL 56 [Enc.enc a0] (.int r) := by
 unfold F3 at k0; replace k0 := kq k0
 refine fnN GM KF ?_
 rintro low s r hl hf
 have q44 := @X3
 have q45 := @Xw
 have q46 := @Ek
 have q47 := @Gl
 refine Ra hl hf ?_
 rintro g1 s r hl hf
 obtain ⟨o7, q, k1⟩ := bnk k0
 refine Rq (fun g9 => [B_ 3 o7]) hl hf q ?_
 rintro g9 s r hl hf
 refine Ra hl hf ?_
 rintro g10 s r hl hf
 refine blk ?_
 obtain ⟨o14, l15, k2⟩ := bnk k1
 refine Bf (f := Ee a0) (E := fun (x : Bool × Int) s => Em [C_ 1 g1 a0, B_ 3 x.1, E_ 30 a0.Tunes, I_ 31 a0.Tunes.len, I_ 32 x.2] s ∧ s.low = low ∧ NoB GM s) (Q := fun (y13 : Bool) j s => j = .exit 0 ∧ Em [C_ 1 g1 a0, B_ 3 y13] s ∧ s.low = low ∧ NoB GM s) l15 ?_ ⟨r, hl, hf⟩ ?_
 ·rintro ⟨x11, x12⟩ s out ⟨r, hl, hf⟩ k3
  dsimp only at r
  simp only [Ee] at k3
  refine Ra hl hf ?_
  rintro g16 s r hl hf
  refine IJ r.2.2.2.2.2.1 k3 (fun c17 k3 => ?_) fun c17 k3 => ?_
  ·refine blk ?_
   obtain ⟨v18, h19, k4⟩ := bnk k3
   refine Ra hl hf ?_
   rintro g20 s r hl hf
   refine Rx (fun g23 => [B_ 3 (x11 && (MB a0 v18))]) hl hf ?_
   rintro g23 s r hl hf
   refine Ra hl hf ?_
   rintro g24 s r hl hf
   obtain rfl := oK k4
   exact ⟨rfl, r, hl, hf⟩
  obtain rfl := oK k3
  exact ⟨by decide, ⟨rfl, ⟨r.1, r.2.1, trivial⟩, hl, hf⟩⟩
 intro j s hq
 obtain ⟨y13, rfl⟩ : ∃ x, x = o14 := ⟨_, rfl⟩
 try dsimp only at k2 hq
 obtain ⟨rfl, r, hl, hf⟩ := hq
 refine Ra hl hf ?_
 rintro g25 s r hl hf
 refine blk ?_
 obtain ⟨o29, l30, k5⟩ := bnk k2
 refine Bf (f := Dl a0) (E := fun (x : Bool × Int) s => Em [C_ 1 g1 a0, B_ 3 x.1, E_ 44 a0.Forks, I_ 45 a0.Forks.len, I_ 46 x.2] s ∧ s.low = low ∧ NoB GM s) (Q := fun (y28 : Bool) j s => j = .exit 2 ∧ Em [C_ 1 g1 a0, B_ 3 y28] s ∧ s.low = low ∧ NoB GM s) l30 ?_ ⟨r, hl, hf⟩ ?_
 ·rintro ⟨x26, x27⟩ s out ⟨r, hl, hf⟩ k6
  dsimp only at r
  simp only [Dl] at k6
  refine Ra hl hf ?_
  rintro g31 s r hl hf
  refine IJ r.2.2.2.2.2.1 k6 (fun c32 k6 => ?_) fun c32 k6 => ?_
  ·refine blk ?_
   obtain ⟨v33, h34, k7⟩ := bnk k6
   refine Ra hl hf ?_
   rintro g35 s r hl hf
   refine Rx (fun g38 => [B_ 3 (x26 && (Hm a0 v33))]) hl hf ?_
   rintro g38 s r hl hf
   refine Ra hl hf ?_
   rintro g39 s r hl hf
   obtain rfl := oK k7
   exact ⟨rfl, r, hl, hf⟩
  obtain rfl := oK k6
  exact ⟨by decide, ⟨rfl, ⟨r.1, r.2.1, trivial⟩, hl, hf⟩⟩
 intro j s hq
 obtain ⟨y28, rfl⟩ : ∃ x, x = o29 := ⟨_, rfl⟩
 try dsimp only at k5 hq
 obtain ⟨rfl, r, hl, hf⟩ := hq
 refine Ra hl hf ?_
 rintro g40 s r hl hf
 refine Rz r.1 k5 (fun c41 k5 => ?_) fun c41 k5 => ?_
 ·refine Ra hl hf ?_
  rintro g42 s r hl hf
  cases oK k5
  exact ⟨Or.inr rfl, hl, AS (AZ r.1)⟩
 refine Ra hl hf ?_
 rintro g43 s r hl hf
 cases oK k5
 exact ⟨Or.inr rfl, hl, AS (AZ r.1)⟩
def bq := fun a0 => Cq.mk (@X2 a0)
theorem LQ {low : List Fr} (a0 : AA) (a1 : Int) (a2 : (Sl Int)) {wja0 : Nat} {wta0 : Nat} {wga0 : Nat} (hwa0 : wja0 < low.length) : Ou zL 62 [.agg (AA.lc a0 wja0 wta0 wga0), .d (.int a1), .d (Enc.enc a2)] low (.fn 79 [] [.fptr (AA.lc a0 wja0 wta0 wga0) 0, .d (.fptr [.int a1] 0), .d (.fptr [Enc.enc a2] 0)]) := by
 refine nM OX F8 ?_
 rintro s r hl hf
 have q2 := @FG
 refine Ra hl hf ?_
 rintro g1 s r hl hf
 refine Ra hl hf ?_
 rintro g3 s r hl hf
 exact ⟨Or.inr rfl, hl, tW (by simp only [mg, r, J0, Pj, bK, hl]; simp only [yV, zD, xG, vi, kw, mj, qd, qY, pG, lD, gP, VG, WY, Tq, bR, ob, RS, ly, VS, Option.map_some, Option.map_none, AA.lc, md (show Env.get 3 s.env = _ from r.1), md (show Env.get 4 s.env = _ from r.2.1), md (show Env.get 5 s.env = _ from r.2.2.1), rT hwa0])⟩
theorem VD {a0 : (Sl Int)} {a1 : Int} {r : Int} (k0 : GG a0 a1 = some r) : zj zL 98 [Enc.enc a0, .int a1] (.int r) := by
 unfold GG at k0; replace k0 := kq k0
 refine fnN Jc HO ?_
 rintro low s r hl hf
 refine Ra hl hf ?_
 rintro g1 s r hl hf
 refine Ra hl hf ?_
 rintro g2 s r hl hf
 refine blk ?_
 obtain ⟨o5, l6, k1⟩ := bnk k0
 refine Bf (f := D3 a0 a1) (E := fun (x : Int) s => Em [E_ 0 a0, I_ 1 a1, I_ 7 a0.len, I_ 8 x] s ∧ s.low = low ∧ NoB Jc s) (Q := fun (o : ((Int) ⊕ (Unit))) j s => match o with | .inl w4 => j = .ret ∧ FnJ HO.1 low (.d (.int w4)) .ret s | .inr _ => j = .exit 0 ∧ Em [] s ∧ s.low = low ∧ NoB Jc s) l6 ?_ ⟨r, hl, hf⟩ ?_
 ·rintro x3 s out ⟨r, hl, hf⟩ k2
  unfold D3 at k2
  refine Ra hl hf ?_
  rintro g7 s r hl hf
  refine IJ r.2.2.2.2.1 k2 (fun c8 k2 => ?_) fun c8 k2 => ?_
  ·refine blk <| Ra hl hf ?_
   rintro g9 s r hl hf
   obtain ⟨v10, h11, k3⟩ := bnk k2
   refine Ra hl hf ?_
   rintro g12 s r hl hf
   refine IJ r.2.2.2.2.2.1 k3 (fun c13 k3 => ?_) fun c13 k3 => ?_
   ·refine Ra hl hf ?_
    rintro g14 s r hl hf
    obtain rfl := oK k3
    exact ⟨by decide, ⟨rfl, ⟨Or.inr rfl, hl, AS (AZ r.1)⟩⟩⟩
   refine Ra hl hf ?_
   rintro g15 s r hl hf
   obtain rfl := oK k3
   exact ⟨rfl, r, hl, hf⟩
  obtain rfl := oK k2
  exact ⟨by decide, ⟨rfl, trivial, hl, hf⟩⟩
 intro j s hq
 rcases o5 with w4 | _
 ·try dsimp only at k1 hq
  obtain ⟨rfl, hq⟩ := hq
  cases oK k1
  exact hq
 try dsimp only at k1 hq
 obtain ⟨rfl, -, hl, hf⟩ := hq
 refine Ra hl hf ?_
 rintro g16 s r hl hf
 cases oK k1
 exact ⟨Or.inr rfl, hl, AS (AZ r.1)⟩
def X6 := fun a0 a1 => Cq.mk (@VD a0 a1)
theorem Gu {a0 : (Sl Int)} {a1 : Int} {r : Bool} (k0 : DF a0 a1 = some r) : zj zL 92 [Enc.enc a0, .int a1] (.bool r) := by
 unfold DF at k0; replace k0 := kq k0
 refine fnN Q7 HG ?_
 rintro low s r hl hf
 have q5 := @X6
 refine Ra hl hf ?_
 rintro g1 s r hl hf
 obtain ⟨v2, h3, k1⟩ := bnk k0
 refine Ra hl hf ?_
 rintro g4 s r hl hf
 cases oK k1
 exact ⟨Or.inr rfl, hl, AS (AZ r.1)⟩
def RE := fun a0 a1 => Cq.mk (@Gu a0 a1)
theorem XZ {a0 : Int} {a1 : (Sl Int)} {r : Int} (k0 : EN a0 a1 = some r) : zj zL 63 [.int a0, Enc.enc a1] (.int r) := by
 unfold EN at k0; replace k0 := kq k0
 refine fnN KJ KD ?_
 rintro low s r hl hf
 refine Ra hl hf ?_
 rintro g1 s r hl hf
 refine Ra hl hf ?_
 rintro g2 s r hl hf
 refine blk ?_
 obtain ⟨o6, l7, k1⟩ := bnk k0
 refine Bf (f := Ds a1) (E := fun (x : Int × Int) s => Em [I_ 0 x.1, E_ 7 a1, I_ 8 a1.len, I_ 9 x.2] s ∧ s.low = low ∧ NoB KJ s) (Q := fun (y5 : Int) j s => j = .exit 0 ∧ Em [I_ 0 y5] s ∧ s.low = low ∧ NoB KJ s) l7 ?_ ⟨r, hl, hf⟩ ?_
 ·rintro ⟨x3, x4⟩ s out ⟨r, hl, hf⟩ k2
  dsimp only at r
  simp only [Ds] at k2
  refine Ra hl hf ?_
  rintro g8 s r hl hf
  refine IJ r.2.2.2.2.1 k2 (fun c9 k2 => ?_) fun c9 k2 => ?_
  ·refine blk ?_
   obtain ⟨v10, h11, k3⟩ := bnk k2
   refine Ra hl hf ?_
   rintro g12 s r hl hf
   have q14 := @hU
   refine Ra hl hf ?_
   rintro g13 s r hl hf
   refine Ra hl hf ?_
   rintro g15 s r hl hf
   obtain rfl := oK k3
   exact ⟨rfl, r, hl, hf⟩
  obtain rfl := oK k2
  exact ⟨by decide, ⟨rfl, ⟨r.1, trivial⟩, hl, hf⟩⟩
 intro j s hq
 obtain ⟨y5, rfl⟩ : ∃ x, x = o6 := ⟨_, rfl⟩
 try dsimp only at k1 hq
 obtain ⟨rfl, r, hl, hf⟩ := hq
 refine Ra hl hf ?_
 rintro g16 s r hl hf
 cases oK k1
 exact ⟨Or.inr rfl, hl, AS (AZ r.1)⟩
def Ks := fun a0 a1 => Cq.mk (@XZ a0 a1)
theorem Ob {low : List Fr} {a0 : AA} {a1 : Int} {a2 : (Ar 5 Int)} {a3 : Int} {wja0 : Nat} {wta0 : Nat} {wga0 : Nat} (hwa0 : wja0 < low.length) {r : Int} (k0 : Ed a0 a1 a2 a3 = some r) : Ou zL 99 [.agg (AA.lc a0 wja0 wta0 wga0), .d (.int a1), .d (Enc.enc a2), .d (.int a3)] low (.d (.int r)) := by
 unfold Ed at k0; replace k0 := kq k0
 refine nM LI Fe ?_
 rintro s r hl hf
 have q22 := @Ks
 have q2 := @FG
 refine Ra hl hf ?_
 rintro g1 s r hl hf
 obtain ⟨v3, h4, k1⟩ := bnk k0
 obtain ⟨v5, h6, k2⟩ := bnk k1
 have q8 := DT h4
 have q9 := Cf h4 rfl rfl
 refine Ra hl hf ?_
 rintro g7 s r hl hf
 obtain ⟨v10, h11, k3⟩ := bnk k2
 obtain ⟨v12, h13, k4⟩ := bnk k3
 obtain ⟨v14, h15, k5⟩ := bnk k4
 have q17 := @N3
 have q18 := DT h11
 have q19 := Cf h11 rfl rfl
 have q20 := DT h13
 have q21 := Cf h13 rfl rfl
 refine Ra hl hf ?_
 rintro g16 s r hl hf
 cases oK k5
 exact ⟨Or.inr rfl, hl, AS (AZ r.1)⟩
theorem Oe {low : List Fr} {a0 : AA} {a1 : Int} {a2 : (Ar 5 Int)} {a3 : Int} {a4 : Int} {wja0 : Nat} {wta0 : Nat} {wga0 : Nat} (hwa0 : wja0 < low.length) {r : Bool} (k0 : DU a0 a1 a2 a3 a4 = some r) : Ou zL 93 [.agg (AA.lc a0 wja0 wta0 wga0), .d (.int a1), .d (Enc.enc a2), .d (.int a3), .d (.int a4)] low (.d (.bool r)) := by
 unfold DU at k0; replace k0 := kq k0
 refine nM LK Ff ?_
 rintro s r hl hf
 have q23 := @Dq
 have q2 := @FG
 refine Ra hl hf ?_
 rintro g1 s r hl hf
 obtain ⟨o12, q13, k1⟩ := bnk k0
 refine lH [B_ 10 o12] hl hf ?_ ?_
 ·by_cases c3 : (decide (Bj.key a2 = Bj.key (⟨[(-1), (-1), (-1), (-1), (-1)], rfl⟩ : (Ar 5 Int)))) = true
  ·rw [if_pos c3] at q13
   have e1 := oI q13
   simp only [rs, ps, CL, I8, FH, MF, Me, Bi, hl, nob hf, r, OW, c3, ← e1, reduceCtorEq, Nat.reduceEqDiff, Nat.reduceAdd]
  rw [if_neg c3] at q13
  have c3 := eq_false_of_ne_true c3
  obtain ⟨v4, h5, q20⟩ := bnd q13
  by_cases c6 : (decide (a3 < v4)) = true
  ·rw [if_pos c6] at q20
   obtain ⟨v7, h8, q21⟩ := bnd q20
   obtain ⟨v9, h10, q22⟩ := bnd q21
   have e1 := oI q22
   have f11 : ∀ (e : Env) (c : Nat), (om zL).call 99 [.agg (AA.lc a0 wja0 wta0 wga0), .d (.int a1), .d (Enc.enc a2), .d (.int a3)] (low ++ [⟨e, none⟩]) c = some (.d (.int (v9)), low ++ [⟨e, none⟩], f8 zL 99 [.agg (AA.lc a0 wja0 wta0 wga0), .d (.int a1), .d (Enc.enc a2), .d (.int a3)] (low ++ [⟨e, none⟩]) c) := fun e c => Ou.om (Ob (by first | omega | (simp only [List.length_append, List.length_cons, List.length_nil]; omega)) h10) c
   simp only [rs, ps, CL, I8, FH, MF, Me, Bi, hl, nob hf, r, OW, c3, (DT h5), (Cf h5 rfl rfl), c6, (DT h8), (Cf h8 rfl rfl), f11, (It a4 v7 v9).call, ← e1, reduceCtorEq, Nat.reduceEqDiff, Nat.reduceAdd]
  rw [if_neg c6] at q20
  have c6 := eq_false_of_ne_true c6
  have e1 := oI q20
  simp only [rs, ps, CL, I8, FH, MF, Me, Bi, hl, nob hf, r, OW, c3, (DT h5), (Cf h5 rfl rfl), c6, ← e1, reduceCtorEq, Nat.reduceEqDiff, Nat.reduceAdd]
 rintro s r hl hf
 cases oK k1
 exact ⟨Or.inr rfl, hl, AS (AZ r.1)⟩
theorem MR {low : List Fr} {a0 : AA} {a1 : Int} {a2 : (Ar 5 Int)} {a3 : (Sl Int)} {wja0 : Nat} {wta0 : Nat} {wga0 : Nat} (hwa0 : wja0 < low.length) {r : Bool} (k0 : BX a0 a1 a2 a3 = some r) : Ou zL 80 [.agg (AA.lc a0 wja0 wta0 wga0), .d (.int a1), .d (Enc.enc a2), .d (Enc.enc a3)] low (.d (.bool r)) := by
 unfold BX at k0; replace k0 := kq k0
 refine nM Gm Ey ?_
 rintro s r hl hf
 have q30 := @RE
 have q2 := @FG
 refine Ra hl hf ?_
 rintro g1 s r hl hf
 have q4 := @N8
 refine Ra hl hf ?_
 rintro g3 s r hl hf
 refine blk ?_
 obtain ⟨o7, l8, k1⟩ := bnk k0
 refine Bf (f := BC a0 a1 a2 a3) (E := fun (x : Int) s => Em [I_ 1 a1, E_ 3 a3, (4, .box g1 (AA.lc a0 wja0 wta0 wga0)), C_ 6 (g1 + 1) a2, E_ 13 a0.VoiceBook.Trials, I_ 14 a0.VoiceBook.Trials.len, I_ 15 x] s ∧ s.low = low ∧ NoB Gm s) (Q := fun (o : ((Bool) ⊕ (Unit))) j s => match o with | .inl w6 => j = .ret ∧ FnJ Ey.1 low (.d (.bool w6)) .ret s | .inr _ => j = .exit 0 ∧ Em [(4, .box g1 (AA.lc a0 wja0 wta0 wga0)), C_ 6 (g1 + 1) a2] s ∧ s.low = low ∧ NoB Gm s) l8 ?_ ⟨r, hl, hf⟩ ?_
 ·rintro x5 s out ⟨r, hl, hf⟩ k2
  unfold BC at k2
  refine Ra hl hf ?_
  rintro g9 s r hl hf
  refine IJ r.2.2.2.2.2.2.2.1 k2 (fun c10 k2 => ?_) fun c10 k2 => ?_
  ·refine blk ?_
   obtain ⟨v11, h12, k3⟩ := bnk k2
   refine Ra hl hf ?_
   rintro g13 s r hl hf
   obtain ⟨o21, q22, k4⟩ := bnk k3
   refine lH [I_ 1 a1, E_ 3 a3, (4, .box g1 (AA.lc a0 wja0 wta0 wga0)), C_ 6 (g1 + 1) a2, E_ 13 a0.VoiceBook.Trials, I_ 14 a0.VoiceBook.Trials.len, I_ 15 x5, B_ 43 o21] hl hf ?_ ?_
   ·by_cases c14 : (decide (v11.Boy = a1)) = true
    ·rw [if_pos c14] at q22
     obtain ⟨v15, h16, q27⟩ := bnd q22
     by_cases c17 : v15 = true
     ·rw [if_pos c17] at q27
      have e1 := oI q27
      simp only [rs, ps, CL, I8, FH, Bi, hl, nob hf, r, c14, (Gu h16).call, c17, ← e1, reduceCtorEq, Nat.reduceEqDiff, Nat.reduceAdd]
     rw [if_neg c17] at q27
     have c17 := eq_false_of_ne_true c17
     obtain ⟨v18, h19, q28⟩ := bnd q27
     have e1 := oI q28
     have f20 : ∀ (e : Env) (c : Nat), (om zL).call 93 [.agg (AA.lc a0 wja0 wta0 wga0), .d (.int a1), .d (Enc.enc a2), .d (.int v11.Week), .d (.int v11.Note)] (low ++ [⟨e, none⟩]) c = some (.d (.bool (v18)), low ++ [⟨e, none⟩], f8 zL 93 [.agg (AA.lc a0 wja0 wta0 wga0), .d (.int a1), .d (Enc.enc a2), .d (.int v11.Week), .d (.int v11.Note)] (low ++ [⟨e, none⟩]) c) := fun e c => Ou.om (Oe (by first | omega | (simp only [List.length_append, List.length_cons, List.length_nil]; omega)) h19) c
     simp only [rs, ps, CL, I8, FH, Bi, hl, nob hf, r, c14, (Gu h16).call, c17, f20, ← e1, reduceCtorEq, Nat.reduceEqDiff, Nat.reduceAdd]
    rw [if_neg c14] at q22
    have c14 := eq_false_of_ne_true c14
    have e1 := oI q22
    simp only [rs, ps, CL, I8, FH, Bi, hl, nob hf, r, c14, ← e1, reduceCtorEq, Nat.reduceEqDiff, Nat.reduceAdd]
   rintro s r hl hf
   refine IJ r.2.2.2.2.2.2.2.1 k4 (fun c24 k4 => ?_) fun c24 k4 => ?_
   ·refine Ra hl hf ?_
    rintro g25 s r hl hf
    obtain rfl := oK k4
    exact ⟨by decide, ⟨rfl, ⟨Or.inr rfl, hl, AS (AZ r.1)⟩⟩⟩
   refine Ra hl hf ?_
   rintro g26 s r hl hf
   obtain rfl := oK k4
   exact ⟨rfl, r, hl, hf⟩
  obtain rfl := oK k2
  exact ⟨by decide, ⟨rfl, ⟨r.2.2.1, r.2.2.2.1, trivial⟩, hl, hf⟩⟩
 intro j s hq
 rcases o7 with w6 | _
 ·try dsimp only at k1 hq
  obtain ⟨rfl, hq⟩ := hq
  cases oK k1
  exact hq
 try dsimp only at k1 hq
 obtain ⟨rfl, r, hl, hf⟩ := hq
 refine Ra hl hf ?_
 rintro g29 s r hl hf
 cases oK k1
 exact ⟨Or.inr rfl, hl, AS (AZ r.1)⟩
theorem IX {σ : Type} {yf : (Ar 5 Int) → σ → Option (Bool × σ)} (n : Nat) : ∀ (R : σ → List Fr → Prop) (N : Nat), (∀ s low, R s low → low.length = N) → ∀ (yj yg : Nat), J3 zL R yj yg (fun (x : (Ar 5 Int)) => [.d (Enc.enc x)]) yf → ∀ (a0 : (Ar 5 Int)) (a1 : Int) (a2x : (Ar 5 BJ)) (a4xf0 : AA) (a5 : Int) (a6 : (Sl Int)) (pja2 : Nat) (pta2 : Nat) (pga2 : Nat) (pja3 : Nat) (pta3 : Nat) (pga3 : Nat) (pja4 : Nat) (pta4 : Nat) (pga4 : Nat) (wja4xf0 : Nat) (wta4xf0 : Nat) (wga4xf0 : Nat) (pja7 : Nat) (pta7 : Nat) (pga7 : Nat), (∀ st low, R st low → JH low pja2 pta2 = some (.box pga2 ((Enc.cells a2x).map LV.d))) → (∀ st low, R st low → JH low pja3 pta3 = some (.box pga3 [.fn 81 [] [.ptr pja2 pta2 pga2 0, .ptr pja3 pta3 pga3 0, .ptr pja4 pta4 pga4 0, .d (.fptr [.int a5] 0), .d (.fptr [Enc.enc a6] 0), .ptr pja7 pta7 pga7 0]])) → (wja4xf0 < N) → (∀ st low, R st low → JH low pja4 pta4 = some (.box pga4 [.fn 80 [.agg (AA.lc a4xf0 wja4xf0 wta4xf0 wga4xf0)] []])) → (∀ st low, R st low → JH low pja7 pta7 = some (.box pga7 [.yield yj yg])) → ∀ (low : List Fr) (st : σ), R st low → ∀ r : Bool × σ, Af yf n a0 a1 a2x a4xf0 a5 a6 st = some r → qi zL 81 [.d (Enc.enc a0), .d (.int a1), .ptr pja2 pta2 pga2 0, .ptr pja3 pta3 pga3 0, .ptr pja4 pta4 pga4 0, .d (.fptr [.int a5] 0), .d (.fptr [Enc.enc a6] 0), .ptr pja7 pta7 pga7 0] R low (.d (.bool r.1)) r.2 := by
 induction n with
 | zero => intro R N hN yj yg hy a0 a1 a2x a4xf0 a5 a6 pja2 pta2 pga2 pja3 pta3 pga3 pja4 pta4 pga4 wja4xf0 wta4xf0 wga4xf0 pja7 pta7 pga7 ba2S ba3S hwa4xf0 ba4S ba7S low st hR r k0; simp [Af] at k0
 | succ n ih =>
  intro R N hN yj yg hy a0 a1 a2x a4xf0 a5 a6 pja2 pta2 pga2 pja3 pta3 pga3 pja4 pta4 pga4 wja4xf0 wta4xf0 wga4xf0 pja7 pta7 pga7 ba2S ba3S hwa4xf0 ba4S ba7S low st hR r k0
  simp only [Af] at k0; replace k0 := kq k0
  refine yy Bc CE ?_
  rintro s r hl hf
  have hlN : low.length = N := hN _ _ hR
  have ba2 := ba2S _ _ hR
  have ba3 := ba3S _ _ hR
  have ba4 := ba4S _ _ hR
  have ba7 := ba7S _ _ hR
  refine Ra hl hf ?_
  rintro g1 s r hl hf
  obtain ⟨v2, h3, k1⟩ := bnk k0
  have q5 := DT h3
  have q6 := PO ba2
  have q7 := jK (sz := 2) h3 rfl
  refine Ra hl hf ?_
  rintro g4 s r hl hf
  refine Ra hl hf ?_
  rintro g8 s r hl hf
  refine blk ?_
  obtain ⟨o15, l16, k2⟩ := bnk k1
  refine Bf (f := Ao (Af yf n) yf a1 a2x a4xf0 a5 a6 v2) (E := fun (x : σ × (Ar 5 Int) × Int) s => Em [I_ 1 a1, (3, .v (.ptr pja3 pta3 pga3 0)), (4, .v (.ptr pja4 pta4 pga4 0)), (5, .v (.d (.fptr [.int a5] 0))), (6, .v (.d (.fptr [Enc.enc a6] 0))), (7, .v (.ptr pja7 pta7 pga7 0)), C_ 8 g1 x.2.1, C_ 11 (g4 + 1 + 1 + 1) v2, I_ 21 (W ((W (v2.High - v2.Low)) + 1)), I_ 22 x.2.2] s ∧ R x.1 s.low ∧ NoB Bc s) (Q := fun (o : ((Bool × σ) ⊕ (σ × (Ar 5 Int)))) j s => match o with | .inl w12 => j = .ret ∧ yU CE.1 R w12.2 (.d (.bool w12.1)) .ret s | .inr (y13, y14) => j = .exit 0 ∧ Em [C_ 8 g1 y14, C_ 11 (g4 + 1 + 1 + 1) v2] s ∧ R y13 s.low ∧ NoB Bc s) l16 ?_ ⟨r, (by rw [hl]; exact hR), hf⟩ ?_
  ·rintro ⟨x9, x10, x11⟩ s out ⟨r, hR0, hf⟩ k3
   dsimp only at hR0 r
   obtain ⟨low, hl⟩ : ∃ l, s.low = l := ⟨_, rfl⟩
   rw [hl] at hR0
   have hR := hR0
   have hlN : low.length = N := hN _ _ hR
   have ba2 := ba2S _ _ hR
   have ba3 := ba3S _ _ hR
   have ba4 := ba4S _ _ hR
   have ba7 := ba7S _ _ hR
   simp only [Ao] at k3
   refine Ra hl hf ?_
   rintro g17 s r hl hf
   refine IJ r.2.2.2.2.2.2.2.2.2.2.1 k3 (fun c18 k3 => ?_) fun c18 k3 => ?_
   ·refine blk <| Ra hl hf ?_
    rintro g19 s r hl hf
    obtain ⟨v20, h21, k4⟩ := bnk k3
    have q23 := DT h21
    have q24 := wi h21
    refine Ra hl hf ?_
    rintro g22 s r hl hf
    refine Ra hl hf ?_
    rintro g25 s r hl hf
    refine IJ r.2.2.2.2.2.2.2.2.2.2.1 k4 (fun c26 k4 => ?_) fun c26 k4 => ?_
    ·obtain ⟨⟨v27, t28⟩, h29, k5⟩ := bnk k4
     dsimp only at k5
     refine regS (B := Bc) (low := low) (Q := R t28) [I_ 1 a1, (3, .v (.ptr pja3 pta3 pga3 0)), (4, .v (.ptr pja4 pta4 pga4 0)), (5, .v (.d (.fptr [.int a5] 0))), (6, .v (.d (.fptr [Enc.enc a6] 0))), (7, .v (.ptr pja7 pta7 pga7 0)), C_ 8 g1 (x10.put a1 (W (v2.Low + x11))), C_ 11 (g4 + 1 + 1 + 1) v2, I_ 21 (W ((W (v2.High - v2.Low)) + 1)), I_ 22 x11, B_ 38 (!v27)] hl hf ?_ ?_
     ·have f30 : ∀ (e : Env) (c : Nat), (om zL).call 81 [.d (Enc.enc (x10.put a1 (W (v2.Low + x11)))), .d (.int (W (a1 + 1))), .ptr pja2 pta2 pga2 0, .ptr pja3 pta3 pga3 0, .ptr pja4 pta4 pga4 0, .d (.fptr [.int a5] 0), .d (.fptr [Enc.enc a6] 0), .ptr pja7 pta7 pga7 0] (low ++ [⟨e, none⟩]) c = some (.d (.bool v27), nt zL 81 [.d (Enc.enc (x10.put a1 (W (v2.Low + x11)))), .d (.int (W (a1 + 1))), .ptr pja2 pta2 pga2 0, .ptr pja3 pta3 pga3 0, .ptr pja4 pta4 pga4 0, .d (.fptr [.int a5] 0), .d (.fptr [Enc.enc a6] 0), .ptr pja7 pta7 pga7 0] (low ++ [⟨e, none⟩]) c ++ [⟨e, none⟩], f8 zL 81 [.d (Enc.enc (x10.put a1 (W (v2.Low + x11)))), .d (.int (W (a1 + 1))), .ptr pja2 pta2 pga2 0, .ptr pja3 pta3 pga3 0, .ptr pja4 pta4 pga4 0, .d (.fptr [.int a5] 0), .d (.fptr [Enc.enc a6] 0), .ptr pja7 pta7 pga7 0] (low ++ [⟨e, none⟩]) c) ∧ R t28 (nt zL 81 [.d (Enc.enc (x10.put a1 (W (v2.Low + x11)))), .d (.int (W (a1 + 1))), .ptr pja2 pta2 pga2 0, .ptr pja3 pta3 pga3 0, .ptr pja4 pta4 pga4 0, .d (.fptr [.int a5] 0), .d (.fptr [Enc.enc a6] 0), .ptr pja7 pta7 pga7 0] (low ++ [⟨e, none⟩]) c) ∧ (nt zL 81 [.d (Enc.enc (x10.put a1 (W (v2.Low + x11)))), .d (.int (W (a1 + 1))), .ptr pja2 pta2 pga2 0, .ptr pja3 pta3 pga3 0, .ptr pja4 pta4 pga4 0, .d (.fptr [.int a5] 0), .d (.fptr [Enc.enc a6] 0), .ptr pja7 pta7 pga7 0] (low ++ [⟨e, none⟩]) c).length = low.length := fun e c => qi.om hN hR (ih (tZ R ⟨e, none⟩) (N + 1) (ka hN _) yj yg (hy.push _) (x10.put a1 (W (v2.Low + x11))) (W (a1 + 1)) a2x a4xf0 a5 a6 _ _ _ _ _ _ _ _ _ _ _ _ _ _ _ (NC ba2S _) (NC ba3S _) (by first | omega | (simp only [List.length_append, List.length_cons, List.length_nil]; omega)) (NC ba4S _) (NC ba7S _) _ _ ⟨low, rfl, hR⟩ _ h29) c
      simp only [rs, ps, I8, RP, FH, hl, nob hf, hlN, r, (PO ba3), (fun e c => (f30 e c).1), (fun e c => (f30 e c).2.1), (fun e c => (f30 e c).2.2), reduceCtorEq, Nat.reduceEqDiff, Nat.reduceAdd]
     rintro s r hR0 hf
     obtain ⟨low, hl⟩ : ∃ l, s.low = l := ⟨_, rfl⟩
     rw [hl] at hR0
     have hR := hR0
     have hlN : low.length = N := hN _ _ hR
     have ba2 := ba2S _ _ hR
     have ba3 := ba3S _ _ hR
     have ba4 := ba4S _ _ hR
     have ba7 := ba7S _ _ hR
     refine Rz r.2.2.2.2.2.2.2.2.2.2.1 k5 (fun c31 k5 => ?_) fun c31 k5 => ?_
     ·refine Ra hl hf ?_
      rintro g32 s r hl hf
      obtain rfl := oK k5
      exact ⟨rfl, r, (by rw [hl]; exact hR), hf⟩
     refine Ra hl hf ?_
     rintro g33 s r hl hf
     obtain rfl := oK k5
     exact ⟨by decide, ⟨rfl, ⟨Or.inr rfl, (by rw [hl]; exact hR), AS (AZ r.1)⟩⟩⟩
    obtain ⟨v34, h35, k6⟩ := bnk k4
    have q38 := @RP
    have q39 := PO ba4
    have f36 : ∀ (e : Env) (c : Nat), (om zL).call 80 [.agg (AA.lc a4xf0 wja4xf0 wta4xf0 wga4xf0), .d (.int a5), .d (Enc.enc (x10.put a1 (W (v2.Low + x11)))), .d (Enc.enc a6)] (low ++ [⟨e, none⟩]) c = some (.d (.bool (v34)), low ++ [⟨e, none⟩], f8 zL 80 [.agg (AA.lc a4xf0 wja4xf0 wta4xf0 wga4xf0), .d (.int a5), .d (Enc.enc (x10.put a1 (W (v2.Low + x11)))), .d (Enc.enc a6)] (low ++ [⟨e, none⟩]) c) := fun e c => Ou.om (MR (by first | omega | (simp only [List.length_append, List.length_cons, List.length_nil]; omega)) h35) c
    have q40 := @f36
    refine Ra hl hf ?_
    rintro g37 s r hl hf
    refine Rz r.2.2.2.2.2.2.2.2.2.2.1 k6 (fun c41 k6 => ?_) fun c41 k6 => ?_
    ·obtain ⟨⟨v42, t43⟩, h44, k7⟩ := bnk k6
     dsimp only at k7
     refine regS (B := Bc) (low := low) (Q := R t43) [I_ 1 a1, (3, .v (.ptr pja3 pta3 pga3 0)), (4, .v (.ptr pja4 pta4 pga4 0)), (5, .v (.d (.fptr [.int a5] 0))), (6, .v (.d (.fptr [Enc.enc a6] 0))), (7, .v (.ptr pja7 pta7 pga7 0)), C_ 8 g1 (x10.put a1 (W (v2.Low + x11))), C_ 11 (g4 + 1 + 1 + 1) v2, I_ 21 (W ((W (v2.High - v2.Low)) + 1)), I_ 22 x11, B_ 48 (!v42)] hl hf ?_ ?_
     ·have f45 : ∀ (fr : Fr) (c : Nat), (om zL).round yj yg [.d (Enc.enc (x10.put a1 (W (v2.Low + x11))))] (low ++ [fr]) c = some (v42, sG zL yj yg [.d (Enc.enc (x10.put a1 (W (v2.Low + x11))))] (low ++ [fr]) c ++ [fr], xm zL yj yg [.d (Enc.enc (x10.put a1 (W (v2.Low + x11))))] (low ++ [fr]) c) ∧ R t43 (sG zL yj yg [.d (Enc.enc (x10.put a1 (W (v2.Low + x11))))] (low ++ [fr]) c) ∧ (sG zL yj yg [.d (Enc.enc (x10.put a1 (W (v2.Low + x11))))] (low ++ [fr]) c).length = low.length := fun fr c => hy.om hN hR h44 fr c
      simp only [rs, ps, pD, FH, hl, nob hf, hlN, r, (PO ba7), (fun fr c => (f45 fr c).1), (fun fr c => (f45 fr c).2.1), (fun fr c => (f45 fr c).2.2), reduceCtorEq, Nat.reduceEqDiff, Nat.reduceAdd]
     rintro s r hR0 hf
     obtain ⟨low, hl⟩ : ∃ l, s.low = l := ⟨_, rfl⟩
     rw [hl] at hR0
     have hR := hR0
     have hlN : low.length = N := hN _ _ hR
     have ba2 := ba2S _ _ hR
     have ba3 := ba3S _ _ hR
     have ba4 := ba4S _ _ hR
     have ba7 := ba7S _ _ hR
     refine Rz r.2.2.2.2.2.2.2.2.2.2.1 k7 (fun c46 k7 => ?_) fun c46 k7 => ?_
     ·refine Ra hl hf ?_
      rintro g47 s r hl hf
      obtain rfl := oK k7
      exact ⟨rfl, r, (by rw [hl]; exact hR), hf⟩
     refine Ra hl hf ?_
     rintro g48 s r hl hf
     obtain rfl := oK k7
     exact ⟨by decide, ⟨rfl, ⟨Or.inr rfl, (by rw [hl]; exact hR), AS (AZ r.1)⟩⟩⟩
    refine Ra hl hf ?_
    rintro g49 s r hl hf
    obtain rfl := oK k6
    exact ⟨rfl, r, (by rw [hl]; exact hR), hf⟩
   obtain rfl := oK k3
   exact ⟨by decide, ⟨rfl, ⟨r.2.2.2.2.2.2.1, r.2.2.2.2.2.2.2.1, trivial⟩, (by rw [hl]; exact hR), hf⟩⟩
  intro j s hq
  rcases o15 with w12 | ⟨y13, y14⟩
  ·try dsimp only at k2 hq
   obtain ⟨rfl, hq⟩ := hq
   cases oK k2
   exact hq
  try dsimp only at k2 hq
  obtain ⟨rfl, r, hR0, hf⟩ := hq
  obtain ⟨low, hl⟩ : ∃ l, s.low = l := ⟨_, rfl⟩
  rw [hl] at hR0
  have hR := hR0
  have hlN : low.length = N := hN _ _ hR
  have ba2 := ba2S _ _ hR
  have ba3 := ba3S _ _ hR
  have ba4 := ba4S _ _ hR
  have ba7 := ba7S _ _ hR
  refine Ra hl hf ?_
  rintro g50 s r hl hf
  cases oK k2
  exact ⟨Or.inr rfl, (by rw [hl]; exact hR), AS (AZ r.1)⟩
theorem JP {σ : Type} {R : σ → List Fr → Prop} {N : Nat} (hN : ∀ s low, R s low → low.length = N) {yf : (Ar 5 Int) → σ → Option (Bool × σ)} {yj yg : Nat} (hy : J3 zL R yj yg (fun (x : (Ar 5 Int)) => [.d (Enc.enc x)]) yf) {a1 : AA} {a2 : Int} {a3 : (Sl Int)} {wja1 : Nat} {wta1 : Nat} {wga1 : Nat} (hwa1 : wja1 < N) {low : List Fr} {st : σ} (hR : R st low) {r : Unit × σ} (k0 : BH yf a1 a2 a3 st = some r) : qi zL 79 [.yield yj yg, .fptr (AA.lc a1 wja1 wta1 wga1) 0, .d (.fptr [.int a2] 0), .d (.fptr [Enc.enc a3] 0)] R low (.d (.tup [])) r.2 := by
 unfold BH at k0; replace k0 := kq k0
 refine yy G0 Et ?_
 rintro s r hl hf
 have hlN : low.length = N := hN _ _ hR
 refine Ra hl hf ?_
 rintro g1 s r hl hf
 have q3 := @RD
 have q4 := @Qe
 have q5 := @Yq
 refine Ra hl hf ?_
 rintro g2 s r hl hf
 obtain ⟨v6, h7, k1⟩ := bnk k0
 have q9 := @WA
 refine Ra hl hf ?_
 rintro g8 s r hl hf
 refine Ra hl hf ?_
 rintro g10 s r hl hf
 refine Ra hl hf ?_
 rintro g11 s r hl hf
 have q13 := @Yq
 refine Ra hl hf ?_
 rintro g12 s r hl hf
 obtain ⟨⟨v14, t15⟩, h16, k2⟩ := bnk k1
 dsimp only at k2
 refine regS (B := G0) (low := low) (Q := R t15) [] hl hf ?_ ?_
 ·have f17 : ∀ (e : Env) (c : Nat) (z0 : Env.get 7 e = some (.box (g10 + 1 + 1 + 1 + 1 + 1 + 1 + 1 + 1 + 1 + 1 + 1) ((Enc.cells (⟨[v6.Low, v6.High, v6.Gain, v6.Turn, v6.Break], rfl⟩ : (Ar 5 BJ))).map LV.d))) (z1 : Env.get 8 e = some (.box g11 [.fn 81 [] [.ptr N 7 (g10 + 1 + 1 + 1 + 1 + 1 + 1 + 1 + 1 + 1 + 1 + 1) 0, .ptr N 8 g11 0, .ptr N 5 (g2 + 1 + 1) 0, .d (.fptr [.int a2] 0), .d (.fptr [Enc.enc a3] 0), .ptr N 4 g1 0]])) (z2 : Env.get 5 e = some (.box (g2 + 1 + 1) [.fn 80 [.agg (AA.lc a1 wja1 wta1 wga1)] []])) (z3 : Env.get 4 e = some (.box g1 [.yield yj yg])), (om zL).call 81 [.d (Enc.enc (⟨[(-1), (-1), (-1), (-1), (-1)], rfl⟩ : (Ar 5 Int))), .d (.int 0), .ptr N 7 (g10 + 1 + 1 + 1 + 1 + 1 + 1 + 1 + 1 + 1 + 1 + 1) 0, .ptr N 8 g11 0, .ptr N 5 (g2 + 1 + 1) 0, .d (.fptr [.int a2] 0), .d (.fptr [Enc.enc a3] 0), .ptr N 4 g1 0] (low ++ [⟨e, none⟩]) c = some (.d (.bool v14), nt zL 81 [.d (Enc.enc (⟨[(-1), (-1), (-1), (-1), (-1)], rfl⟩ : (Ar 5 Int))), .d (.int 0), .ptr N 7 (g10 + 1 + 1 + 1 + 1 + 1 + 1 + 1 + 1 + 1 + 1 + 1) 0, .ptr N 8 g11 0, .ptr N 5 (g2 + 1 + 1) 0, .d (.fptr [.int a2] 0), .d (.fptr [Enc.enc a3] 0), .ptr N 4 g1 0] (low ++ [⟨e, none⟩]) c ++ [⟨e, none⟩], f8 zL 81 [.d (Enc.enc (⟨[(-1), (-1), (-1), (-1), (-1)], rfl⟩ : (Ar 5 Int))), .d (.int 0), .ptr N 7 (g10 + 1 + 1 + 1 + 1 + 1 + 1 + 1 + 1 + 1 + 1 + 1) 0, .ptr N 8 g11 0, .ptr N 5 (g2 + 1 + 1) 0, .d (.fptr [.int a2] 0), .d (.fptr [Enc.enc a3] 0), .ptr N 4 g1 0] (low ++ [⟨e, none⟩]) c) ∧ R t15 (nt zL 81 [.d (Enc.enc (⟨[(-1), (-1), (-1), (-1), (-1)], rfl⟩ : (Ar 5 Int))), .d (.int 0), .ptr N 7 (g10 + 1 + 1 + 1 + 1 + 1 + 1 + 1 + 1 + 1 + 1 + 1) 0, .ptr N 8 g11 0, .ptr N 5 (g2 + 1 + 1) 0, .d (.fptr [.int a2] 0), .d (.fptr [Enc.enc a3] 0), .ptr N 4 g1 0] (low ++ [⟨e, none⟩]) c) ∧ (nt zL 81 [.d (Enc.enc (⟨[(-1), (-1), (-1), (-1), (-1)], rfl⟩ : (Ar 5 Int))), .d (.int 0), .ptr N 7 (g10 + 1 + 1 + 1 + 1 + 1 + 1 + 1 + 1 + 1 + 1 + 1) 0, .ptr N 8 g11 0, .ptr N 5 (g2 + 1 + 1) 0, .d (.fptr [.int a2] 0), .d (.fptr [Enc.enc a3] 0), .ptr N 4 g1 0] (low ++ [⟨e, none⟩]) c).length = low.length := fun e c z0 z1 z2 z3 => qi.om hN hR (IX 64 (tZ R ⟨e, none⟩) (N + 1) (ka hN _) yj yg (hy.push _) (⟨[(-1), (-1), (-1), (-1), (-1)], rfl⟩ : (Ar 5 Int)) 0 (⟨[v6.Low, v6.High, v6.Gain, v6.Turn, v6.Break], rfl⟩ : (Ar 5 BJ)) a1 a2 a3 _ _ _ _ _ _ _ _ _ _ _ _ _ _ _ (Po hN z0) (Po hN z1) (by first | omega | (simp only [List.length_append, List.length_cons, List.length_nil]; omega)) (Po hN z2) (Po hN z3) _ _ ⟨low, rfl, hR⟩ _ h16) c
  simp only [rs, CL, I8, RP, FH, hl, nob hf, hlN, r, OW, (fun e c z0 z1 z2 z3 => (f17 e c z0 z1 z2 z3).1), (fun e c z0 z1 z2 z3 => (f17 e c z0 z1 z2 z3).2.1), (fun e c z0 z1 z2 z3 => (f17 e c z0 z1 z2 z3).2.2), reduceCtorEq, Nat.reduceEqDiff, Nat.reduceAdd]
 rintro s - hR0 hf
 obtain ⟨low, hl⟩ : ∃ l, s.low = l := ⟨_, rfl⟩
 rw [hl] at hR0
 have hR := hR0
 have hlN : low.length = N := hN _ _ hR
 cases oK k2
 exact ⟨Or.inl rfl, (by rw [hl]; exact hR), uC _⟩
theorem I3 {a0 : VoiceBook} {a1 : (Sl Int)} {r : AA} (k0 : EC a0 a1 = some r) : zj zL 38 [Enc.enc a0, Enc.enc a1] (Enc.enc r) := by
 unfold EC at k0; replace k0 := kq k0
 refine fnN A0 JY ?_
 rintro low s ⟨r0, r1, -⟩ hl hf
 have q69 := @Ks
 have q2 := @L8
 refine Ra hl hf ?_
 rintro g1 s ⟨r1, r2, r4, -⟩ hl hf
 have q4 := @Jm
 have q5 := @KL
 have q6 := @TV
 have q7 := @L8
 refine Ra hl hf ?_
 rintro g3 s ⟨r1, r2, r4, r5, r12, -⟩ hl hf
 refine Ra hl hf ?_
 rintro g8 s ⟨r1, r2, r4, r5, r12, r16, r17, -⟩ hl hf
 refine blk ?_
 obtain ⟨o14, l15, k1⟩ := bnk k0
 refine Bf (f := CN a0 a1) (E := fun (x : AA × (List (List Int × (Sl (Ar 5 Int)))) × Int) s => CB [E_ 1 a1, C_ 2 g1 a0, C_ 4 (g1 + 1) (AA.mk (VoiceBook.mk (Sl.nil : (Sl AK)) 0 (Sl.nil : (Sl AI))) (Sl.nil : (Sl (Sl (Ar 5 Int)))) (Mp.nil : (Mp 2 (Sl (Ar 5 Int))))), (5, .box (g3 + 1 + 1 + 1) (AU x.1 low.length 12 (g3 + 1))), (12, .mapo (g3 + 1) 2 (Dx x.2.1)), I_ 16 a0.Boys.len, I_ 17 x.2.2] s ∧ s.low = low ∧ NoB A0 s) (Q := fun (o : AA × (List (List Int × (Sl (Ar 5 Int))))) j s => match o with | (y12, y13) => j = .exit 0 ∧ CB [C_ 2 g1 a0, C_ 4 (g1 + 1) (AA.mk (VoiceBook.mk (Sl.nil : (Sl AK)) 0 (Sl.nil : (Sl AI))) (Sl.nil : (Sl (Sl (Ar 5 Int)))) (Mp.nil : (Mp 2 (Sl (Ar 5 Int))))), (5, .box (g3 + 1 + 1 + 1) (AU y12 low.length 12 (g3 + 1))), (12, .mapo (g3 + 1) 2 (Dx y13))] s ∧ s.low = low ∧ NoB A0 s) l15 ?_ ⟨⟨r1, r2, r4, (wW r5 (QW (AA.mk a0 (Sl.nil : (Sl (Sl (Ar 5 Int)))) (Mp.nil : (Mp 2 (Sl (Ar 5 Int))))) _ _ _)), r12, r16, r17, trivial⟩, hl, hf⟩ ?_
 ·rintro ⟨x9, x10, x11⟩ s out ⟨⟨r1, r2, r4, r5, r12, r16, r17, -⟩, hl, hf⟩ k2
  dsimp only at r5 r12 r17
  simp only [CN] at k2
  refine Ra hl hf ?_
  rintro g16 s ⟨r1, r2, r4, r5, r12, r16, r17, r18, -⟩ hl hf
  refine IJ r18 k2 (fun c17 k2 => ?_) fun c17 k2 => ?_
  ·refine blk <| Ra hl hf ?_
   rintro g18 s ⟨r1, r2, r4, r5, r6, r12, r16, r17, -⟩ hl hf
   refine Ra hl hf ?_
   rintro g19 s ⟨r1, r2, r4, r5, r6, r7, r12, r16, r17, -⟩ hl hf
   have q22 := @GI
   have f20 : ∀ (e : Env) (c : Nat), (om zL).call 62 [.agg (AA.lc x9 low.length 12 (g3 + 1)), .d (.int x11), .d (Enc.enc a1)] (low ++ [⟨e, none⟩]) c = some (.fn 79 [] [.fptr (AA.lc x9 low.length 12 (g3 + 1)) 0, .d (.fptr [.int x11] 0), .d (.fptr [Enc.enc a1] 0)], low ++ [⟨e, none⟩], f8 zL 62 [.agg (AA.lc x9 low.length 12 (g3 + 1)), .d (.int x11), .d (Enc.enc a1)] (low ++ [⟨e, none⟩]) c) := fun e c => Ou.om (LQ x9 x11 a1 (by first | omega | (simp only [List.length_append, List.length_cons, List.length_nil]; omega))) c
   have q23 := @f20
   refine Ra hl hf ?_
   rintro g21 s ⟨r1, r2, r4, r5, r6, r7, r12, r16, r17, r23, -⟩ hl hf
   refine blk ?_
   obtain ⟨⟨_, o53⟩, l54, k10⟩ := bnk k2
   refine Run.rng (B := A0) (base := low) (n := 79) (a := []) (b := [.fptr (AA.lc x9 low.length 12 (g3 + 1)) 0, .d (.fptr [.int x11] 0), .d (.fptr [Enc.enc a1] 0)]) (jm := fun (_ : Unit) => zk.ret) (l := fun (o : ((Sl (Ar 5 Int)) × (List (List Int × (Sl (Ar 5 Int))))) ⊕ (Unit)) => match o with | .inl (x25, x26) => [(1, .v (.d (Enc.enc a1))), (2, .box g1 ((Enc.cells a0).map LV.d)), (4, .box (g1 + 1) ((Enc.cells (AA.mk (VoiceBook.mk (Sl.nil : (Sl AK)) 0 (Sl.nil : (Sl AI))) (Sl.nil : (Sl (Sl (Ar 5 Int)))) (Mp.nil : (Mp 2 (Sl (Ar 5 Int)))))).map LV.d)), (5, .box (g3 + 1 + 1 + 1) (AU x9 low.length 12 (g3 + 1))), (6, .box (g18 + 1) [.d (.int x11)]), (7, .box g19 [Sl.lv x25]), (12, .mapo (g3 + 1) 2 (Dx x26)), (16, .v (.d (.int a0.Boys.len))), (17, .v (.d (.int x11))), (23, .v (.fn 79 [] [.fptr (AA.lc x9 low.length 12 (g3 + 1)) 0, .d (.fptr [.int x11] 0), .d (.fptr [Enc.enc a1] 0)]))] | .inr _ => []) (t0 := ((Sl.nil : (Sl (Ar 5 Int))), x10)) (st' := o53) (v := .d (.tup [])) hl hf (by simp only [V5, Lc, J0, r23, Pj, bK, mY, rK, List.map_cons, List.map_nil]) ⟨r1, r2, r4, r5, r6, r7, r12, r16, r17, r23, trivial⟩ ?_ ?_
   ·intro g low1 hc
    refine JP (R := uW A0 low g [24] _ _ (fun (_ : Unit) => zk.ret) (fun (o : ((Sl (Ar 5 Int)) × (List (List Int × (Sl (Ar 5 Int))))) ⊕ (Unit)) => match o with | .inl (x25, x26) => [(1, .v (.d (Enc.enc a1))), (2, .box g1 ((Enc.cells a0).map LV.d)), (4, .box (g1 + 1) ((Enc.cells (AA.mk (VoiceBook.mk (Sl.nil : (Sl AK)) 0 (Sl.nil : (Sl AI))) (Sl.nil : (Sl (Sl (Ar 5 Int)))) (Mp.nil : (Mp 2 (Sl (Ar 5 Int)))))).map LV.d)), (5, .box (g3 + 1 + 1 + 1) (AU x9 low.length 12 (g3 + 1))), (6, .box (g18 + 1) [.d (.int x11)]), (7, .box g19 [Sl.lv x25]), (12, .mapo (g3 + 1) 2 (Dx x26)), (16, .v (.d (.int a0.Boys.len))), (17, .v (.d (.int x11))), (23, .v (.fn 79 [] [.fptr (AA.lc x9 low.length 12 (g3 + 1)) 0, .d (.fptr [.int x11] 0), .d (.fptr [Enc.enc a1] 0)]))] | .inr _ => [])) (fun st l h => rX st l h) ?_ (by first | omega | (simp only [List.length_append, List.length_cons, List.length_nil]; omega)) hc l54
    refine XE (by decide) (fun _ => rfl) ?_
    rintro a24 ⟨x25, x26⟩ out k3 e above low0 lw lp s hr ha hr0 hBB hl hf
    obtain ⟨e1, e2, e4, e5, e6, e7, e12, e16, e17, e23, -⟩ := hr0
    have r1 : s.raw 1 = some (.v (.d (Enc.enc a1))) := hr 1 _ rfl e1
    have r2 : s.raw 2 = some (.v (.ptr low.length 2 g1 0)) := hr 2 _ rfl e2
    have r4 : s.raw 4 = some (.v (.ptr low.length 4 (g1 + 1) 0)) := hr 4 _ rfl e4
    have r5 : s.raw 5 = some (.v (.ptr low.length 5 (g3 + 1 + 1 + 1) 0)) := hr 5 _ rfl e5
    have r6 : s.raw 6 = some (.v (.ptr low.length 6 (g18 + 1) 0)) := hr 6 _ rfl e6
    have r7 : s.raw 7 = some (.v (.ptr low.length 7 g19 0)) := hr 7 _ rfl e7
    have r12 : s.raw 12 = some (.v (.mref low.length 12 (g3 + 1))) := hr 12 _ rfl e12
    have r16 : s.raw 16 = some (.v (.d (.int a0.Boys.len))) := hr 16 _ rfl e16
    have r17 : s.raw 17 = some (.v (.d (.int x11))) := hr 17 _ rfl e17
    have r23 : s.raw 23 = some (.v (.fn 79 [] [.fptr (AA.lc x9 low.length 12 (g3 + 1)) 0, .d (.fptr [.int x11] 0), .d (.fptr [Enc.enc a1] 0)])) := hr 23 _ rfl e23
    obtain ⟨r24, -⟩ := ha
    simp only [DI] at k3
    replace k3 := kq k3
    refine Nx.run <| Ra hl hf ?_
    rintro g27 s ⟨r2, r5, r6, r7, r8, r12, -⟩ hl hf
    refine ⟨rfl, hl, ?_⟩
    intro s2 hraw hl
    replace r2 := (hraw 2).trans r2
    replace r5 := (hraw 5).trans r5
    replace r6 := (hraw 6).trans r6
    replace r7 := (hraw 7).trans r7
    replace r8 := (hraw 8).trans r8
    replace r12 := (hraw 12).trans r12
    replace hf := NoB.congr hf hraw
    clear hraw
    obtain ⟨s, hs⟩ : ∃ q, q = s2 := ⟨_, rfl⟩
    rw [← hs] at r2 r5 r6 r7 r8 r12 hl hf
    rw [← hs]
    clear hs s2
    have hB := hBB
    obtain ⟨m1, m2, m4, m5, m6, m7, m12, m16, m17, m23, -⟩ := NZ.all hB
    have hlt : low.length < lw.length := by have := NZ.len hB; omega
    refine Nx.run <| blk ?_
    obtain ⟨v28, h29, k4⟩ := bnk k3
    refine regS (B := A0) (low := lw) (Q := fun q => q = (FS (FS lw low.length 7 (.box g19 [Sl.lv x25.spent])) low.length 7 (.box g19 [Sl.lv v28]))) [(2, .v (.ptr low.length 2 g1 0)), (5, .v (.ptr low.length 5 (g3 + 1 + 1 + 1) 0)), (6, .v (.ptr low.length 6 (g18 + 1) 0)), C_ 8 g27 a24, (12, .v (.mref low.length 12 (g3 + 1)))] hl hf ?_ ?_
    ·simp only [rs, ps, VH, PW, M9, KP, TT, TX, NJ, hl, nob hf, r2, r5, r6, r7, r8, r12, m1, m2, m4, m5, m6, m7, m12, m16, m17, m23, hlt, (eO (LP := zL) (x := x25) (j := low.length) (t := 7) (gb := g19)), (OI (sz := 5) (x := x25) (y := (Sl.cold [a24] : Sl (Ar 5 Int))) rfl rfl h29), (fJ (x := v28)), reduceCtorEq, Nat.reduceEqDiff, Nat.reduceAdd]
    rintro s ⟨r2, r5, r6, r8, r12, -⟩ hl hf
    replace hl : s.low = (FS (FS lw low.length 7 (.box g19 [Sl.lv x25.spent])) low.length 7 (.box g19 [Sl.lv v28])) := hl
    replace hB := NZ.set (l' := [(1, .v (.d (Enc.enc a1))), (2, .box g1 ((Enc.cells a0).map LV.d)), (4, .box (g1 + 1) ((Enc.cells (AA.mk (VoiceBook.mk (Sl.nil : (Sl AK)) 0 (Sl.nil : (Sl AI))) (Sl.nil : (Sl (Sl (Ar 5 Int)))) (Mp.nil : (Mp 2 (Sl (Ar 5 Int)))))).map LV.d)), (5, .box (g3 + 1 + 1 + 1) (AU x9 low.length 12 (g3 + 1))), (6, .box (g18 + 1) [.d (.int x11)]), (7, .box g19 [Sl.lv x25.spent]), (12, .mapo (g3 + 1) 2 (Dx x26)), (16, .v (.d (.int a0.Boys.len))), (17, .v (.d (.int x11))), (23, .v (.fn 79 [] [.fptr (AA.lc x9 low.length 12 (g3 + 1)) 0, .d (.fptr [.int x11] 0), .d (.fptr [Enc.enc a1] 0)]))]) hB 7 _ rfl (fun s ⟨q1, q2, q4, q5, q6, q7, q12, q16, q17, q23, _⟩ => ⟨(by rw [A2, if_neg (by decide)]; exact q1), (by rw [A2, if_neg (by decide)]; exact q2), (by rw [A2, if_neg (by decide)]; exact q4), (by rw [A2, if_neg (by decide)]; exact q5), (by rw [A2, if_neg (by decide)]; exact q6), (by rw [A2, if_pos rfl]), (by rw [A2, if_neg (by decide)]; exact q12), (by rw [A2, if_neg (by decide)]; exact q16), (by rw [A2, if_neg (by decide)]; exact q17), (by rw [A2, if_neg (by decide)]; exact q23), trivial⟩)
    replace hB := NZ.set (l' := [(1, .v (.d (Enc.enc a1))), (2, .box g1 ((Enc.cells a0).map LV.d)), (4, .box (g1 + 1) ((Enc.cells (AA.mk (VoiceBook.mk (Sl.nil : (Sl AK)) 0 (Sl.nil : (Sl AI))) (Sl.nil : (Sl (Sl (Ar 5 Int)))) (Mp.nil : (Mp 2 (Sl (Ar 5 Int)))))).map LV.d)), (5, .box (g3 + 1 + 1 + 1) (AU x9 low.length 12 (g3 + 1))), (6, .box (g18 + 1) [.d (.int x11)]), (7, .box g19 [Sl.lv v28]), (12, .mapo (g3 + 1) 2 (Dx x26)), (16, .v (.d (.int a0.Boys.len))), (17, .v (.d (.int x11))), (23, .v (.fn 79 [] [.fptr (AA.lc x9 low.length 12 (g3 + 1)) 0, .d (.fptr [.int x11] 0), .d (.fptr [Enc.enc a1] 0)]))]) hB 7 _ rfl (fun s ⟨q1, q2, q4, q5, q6, q7, q12, q16, q17, q23, _⟩ => ⟨(by rw [A2, if_neg (by decide)]; exact q1), (by rw [A2, if_neg (by decide)]; exact q2), (by rw [A2, if_neg (by decide)]; exact q4), (by rw [A2, if_neg (by decide)]; exact q5), (by rw [A2, if_neg (by decide)]; exact q6), (by rw [A2, if_pos rfl]), (by rw [A2, if_neg (by decide)]; exact q12), (by rw [A2, if_neg (by decide)]; exact q16), (by rw [A2, if_neg (by decide)]; exact q17), (by rw [A2, if_neg (by decide)]; exact q23), trivial⟩)
    obtain ⟨lw, hlow⟩ : ∃ q, q = (FS (FS lw low.length 7 (.box g19 [Sl.lv x25.spent])) low.length 7 (.box g19 [Sl.lv v28])) := ⟨_, rfl⟩
    rw [← hlow] at hl hB
    obtain ⟨m1, m2, m4, m5, m6, m7, m12, m16, m17, m23, -⟩ := NZ.all hB
    have hlt : low.length < lw.length := by have := NZ.len hB; omega
    obtain ⟨v30, h31, k5⟩ := bnk k4
    obtain ⟨v32, h33, k6⟩ := bnk k5
    have q35 := @PW
    have q36 := @M9
    have q37 := @KP
    have q38 := @TT
    have q39 := @TX
    have q40 := @NJ
    have q41 := DT h31
    have q42 := Cf h31 rfl rfl
    refine Ra hl hf ?_
    rintro g34 s ⟨r5, r6, r8, r12, r34, r35, -⟩ hl hf
    refine blk ?_
    obtain ⟨o46, l47, k7⟩ := bnk k6
    refine Bf (f := CJ x11 a24 v32) (E := fun (x : (List (List Int × (Sl (Ar 5 Int)))) × Int) s => CB [(5, .v (.ptr low.length 5 (g3 + 1 + 1 + 1) 0)), (6, .v (.ptr low.length 6 (g18 + 1) 0)), C_ 8 g27 a24, I_ 34 v32, I_ 35 x.2] s ∧ NZ A0 low above lp [(1, .v (.d (Enc.enc a1))), (2, .box g1 ((Enc.cells a0).map LV.d)), (4, .box (g1 + 1) ((Enc.cells (AA.mk (VoiceBook.mk (Sl.nil : (Sl AK)) 0 (Sl.nil : (Sl AI))) (Sl.nil : (Sl (Sl (Ar 5 Int)))) (Mp.nil : (Mp 2 (Sl (Ar 5 Int)))))).map LV.d)), (5, .box (g3 + 1 + 1 + 1) (AU x9 low.length 12 (g3 + 1))), (6, .box (g18 + 1) [.d (.int x11)]), (7, .box g19 [Sl.lv v28]), (12, .mapo (g3 + 1) 2 (Dx x.1)), (16, .v (.d (.int a0.Boys.len))), (17, .v (.d (.int x11))), (23, .v (.fn 79 [] [.fptr (AA.lc x9 low.length 12 (g3 + 1)) 0, .d (.fptr [.int x11] 0), .d (.fptr [Enc.enc a1] 0)]))] s.low ∧ NoB A0 s) (Q := fun (y45 : (List (List Int × (Sl (Ar 5 Int))))) j s => j = .exit 4 ∧ CB [C_ 8 g27 a24] s ∧ NZ A0 low above lp [(1, .v (.d (Enc.enc a1))), (2, .box g1 ((Enc.cells a0).map LV.d)), (4, .box (g1 + 1) ((Enc.cells (AA.mk (VoiceBook.mk (Sl.nil : (Sl AK)) 0 (Sl.nil : (Sl AI))) (Sl.nil : (Sl (Sl (Ar 5 Int)))) (Mp.nil : (Mp 2 (Sl (Ar 5 Int)))))).map LV.d)), (5, .box (g3 + 1 + 1 + 1) (AU x9 low.length 12 (g3 + 1))), (6, .box (g18 + 1) [.d (.int x11)]), (7, .box g19 [Sl.lv v28]), (12, .mapo (g3 + 1) 2 (Dx y45)), (16, .v (.d (.int a0.Boys.len))), (17, .v (.d (.int x11))), (23, .v (.fn 79 [] [.fptr (AA.lc x9 low.length 12 (g3 + 1)) 0, .d (.fptr [.int x11] 0), .d (.fptr [Enc.enc a1] 0)]))] s.low ∧ NoB A0 s) l47 ?_ ⟨⟨r5, r6, r8, r34, r35, trivial⟩, (by rw [hl]; exact hB), hf⟩ ?_
    ·rintro ⟨x43, x44⟩ s out ⟨⟨r5, r6, r8, r34, r35, -⟩, hB0, hf⟩ k8
     dsimp only at hB0 r35
     obtain ⟨lw, hl⟩ : ∃ l, s.low = l := ⟨_, rfl⟩
     rw [hl] at hB0
     have hB := hB0
     obtain ⟨m1, m2, m4, m5, m6, m7, m12, m16, m17, m23, -⟩ := NZ.all hB
     have hlt : low.length < lw.length := by have := NZ.len hB; omega
     simp only [CJ] at k8
     refine lH (B := A0) (low := lw) [(5, .v (.ptr low.length 5 (g3 + 1 + 1 + 1) 0)), (6, .v (.ptr low.length 6 (g18 + 1) 0)), C_ 8 g27 a24, I_ 34 v32, I_ 35 x44, B_ 36 (decide (x44 < v32))] hl hf ?_ ?_
     ·simp only [rs, hl, nob hf, r5, r6, r8, r34, r35, m1, m2, m4, m5, m6, m7, m12, m16, m17, m23, hlt, reduceCtorEq, Nat.reduceEqDiff, Nat.reduceAdd]
     rintro s ⟨r5, r6, r8, r34, r35, r36, -⟩ hl hf
     refine IJ r36 k8 (fun c48 k8 => ?_) fun c48 k8 => ?_
     ·refine blk <| lH (B := A0) (low := lw) [(5, .v (.ptr low.length 5 (g3 + 1 + 1 + 1) 0)), (6, .v (.ptr low.length 6 (g18 + 1) 0)), C_ 8 g27 a24, I_ 9 x44, I_ 34 v32, I_ 35 x44] hl hf ?_ ?_
      ·simp only [rs, hl, nob hf, r5, r6, r8, r34, r35, r36, m1, m2, m4, m5, m6, m7, m12, m16, m17, m23, hlt, reduceCtorEq, Nat.reduceEqDiff, Nat.reduceAdd]
      rintro s ⟨r5, r6, r8, r9, r34, r35, -⟩ hl hf
      refine lH (B := A0) (low := lw) [(5, .v (.ptr low.length 5 (g3 + 1 + 1 + 1) 0)), (6, .v (.ptr low.length 6 (g18 + 1) 0)), C_ 8 g27 a24, C_ 10 (s.ctr + 1 + 1 + 1) (Ad.mk x11 x44), I_ 34 v32, I_ 35 x44] hl hf ?_ ?_
      ·simp only [rs, ps, List.length_cons, List.length_nil, JG, Y7, PW, cj, M9, KP, TT, TX, NJ, du, hl, nob hf, r5, r6, r8, r9, r34, r35, m1, m2, m4, m5, m6, m7, m12, m16, m17, m23, hlt, reduceCtorEq, Nat.reduceEqDiff, Nat.reduceAdd]
      generalize s.ctr + 1 + 1 + 1 = g49
      rintro s ⟨r5, r6, r8, r10, r34, r35, -⟩ hl hf
      refine lH (B := A0) (low := lw) [(5, .v (.ptr low.length 5 (g3 + 1 + 1 + 1) 0)), (6, .v (.ptr low.length 6 (g18 + 1) 0)), C_ 8 g27 a24, C_ 10 g49 (Ad.mk x11 x44), I_ 34 v32, I_ 35 x44, B_ 43 (!(decide (Bj.key (Ad.mk x11 x44) = Bj.key (Ad.mk (-1) (-1)))))] hl hf ?_ ?_
      ·simp only [rs, ps, MF, Me, hl, nob hf, r5, r6, r8, r10, r34, r35, m1, m2, m4, m5, m6, m7, m12, m16, m17, m23, hlt, tY, reduceCtorEq, Nat.reduceEqDiff, Nat.reduceAdd]
      rintro s ⟨r5, r6, r8, r10, r34, r35, r43, -⟩ hl hf
      refine Rz r43 k8 (fun c50 k8 => ?_) fun c50 k8 => ?_
      ·refine lH (B := A0) (low := lw) [(5, .v (.ptr low.length 5 (g3 + 1 + 1 + 1) 0)), (6, .v (.ptr low.length 6 (g18 + 1) 0)), C_ 8 g27 a24, I_ 34 v32, I_ 35 (W (x44 + 1))] hl hf ?_ ?_
       ·simp only [rs, hl, nob hf, r5, r6, r8, r10, r34, r35, r43, m1, m2, m4, m5, m6, m7, m12, m16, m17, m23, hlt, reduceCtorEq, Nat.reduceEqDiff, Nat.reduceAdd]
       rintro s ⟨r5, r6, r8, r34, r35, -⟩ hl hf
       obtain rfl := oK k8
       exact ⟨rfl, ⟨r5, r6, r8, r34, r35, trivial⟩, (by rw [hl]; exact hB), hf⟩
      obtain ⟨v51, h52, k9⟩ := bnk k8
      refine regS (B := A0) (low := lw) (Q := fun q => q = (FS (FS lw low.length 12 (.mapo (g3 + 1) 2 (Dx (Eu (Sl.nil : (Sl (Ar 5 Int))) FX.coolE x43 (Bj.key (Ad.mk x11 x44)))))) low.length 12 (.mapo (g3 + 1) 2 (Dx (EX x43 (Bj.key (Ad.mk x11 x44)) v51))))) [(5, .v (.ptr low.length 5 (g3 + 1 + 1 + 1) 0)), (6, .v (.ptr low.length 6 (g18 + 1) 0)), C_ 8 g27 a24, I_ 34 v32, I_ 35 x44] hl hf ?_ ?_
      ·simp only [rs, ps, CL, VH, I8, PW, M9, KP, TT, TV, ne_eq, not_false_eq_true, FH, TX, OM, NJ, LU, hl, nob hf, r5, r6, r8, r10, r34, r35, r43, m1, m2, m4, m5, m6, m7, m12, m16, m17, m23, hlt, (af (n := 2) (Ad.mk x11 x44) rfl (by decide)), (Zu (LP := zL) (j := low.length) (t := 12) (gm := g3 + 1) (key := (Bj.key (Ad.mk x11 x44))) (es := x43) (z := (Sl.nil : (Sl (Ar 5 Int)))) (hz := rfl)), (jD (LP := zL) (a := (NW (Sl.nil : (Sl (Ar 5 Int))) x43 (Bj.key (Ad.mk x11 x44)))) (y := .d (.int (Gy x43 (Bj.key (Ad.mk x11 x44)))))), (OI (sz := 5) (x := (NW (Sl.nil : (Sl (Ar 5 Int))) x43 (Bj.key (Ad.mk x11 x44)))) (y := (Sl.cold [a24] : Sl (Ar 5 Int))) rfl rfl h52), (Tf (LP := zL) (x := Sl.lv (Sl.spent (NW (Sl.nil : (Sl (Ar 5 Int))) x43 (Bj.key (Ad.mk x11 x44))))) (y := .int (Gy x43 (Bj.key (Ad.mk x11 x44))))), (Xd (LP := zL) (j := low.length) (t := 12) (gm := g3 + 1) (key := (Bj.key (Ad.mk x11 x44))) (es := x43) (z := (Sl.nil : (Sl (Ar 5 Int)))) (a := v51)), reduceCtorEq, Nat.reduceEqDiff, Nat.reduceAdd]
      rintro s ⟨r5, r6, r8, r34, r35, -⟩ hl hf
      replace hl : s.low = (FS (FS lw low.length 12 (.mapo (g3 + 1) 2 (Dx (Eu (Sl.nil : (Sl (Ar 5 Int))) FX.coolE x43 (Bj.key (Ad.mk x11 x44)))))) low.length 12 (.mapo (g3 + 1) 2 (Dx (EX x43 (Bj.key (Ad.mk x11 x44)) v51)))) := hl
      replace hB := NZ.set (l' := [(1, .v (.d (Enc.enc a1))), (2, .box g1 ((Enc.cells a0).map LV.d)), (4, .box (g1 + 1) ((Enc.cells (AA.mk (VoiceBook.mk (Sl.nil : (Sl AK)) 0 (Sl.nil : (Sl AI))) (Sl.nil : (Sl (Sl (Ar 5 Int)))) (Mp.nil : (Mp 2 (Sl (Ar 5 Int)))))).map LV.d)), (5, .box (g3 + 1 + 1 + 1) (AU x9 low.length 12 (g3 + 1))), (6, .box (g18 + 1) [.d (.int x11)]), (7, .box g19 [Sl.lv v28]), (12, .mapo (g3 + 1) 2 (Dx (Eu (Sl.nil : (Sl (Ar 5 Int))) FX.coolE x43 (Bj.key (Ad.mk x11 x44))))), (16, .v (.d (.int a0.Boys.len))), (17, .v (.d (.int x11))), (23, .v (.fn 79 [] [.fptr (AA.lc x9 low.length 12 (g3 + 1)) 0, .d (.fptr [.int x11] 0), .d (.fptr [Enc.enc a1] 0)]))]) hB 12 _ rfl (fun s ⟨q1, q2, q4, q5, q6, q7, q12, q16, q17, q23, _⟩ => ⟨(by rw [A2, if_neg (by decide)]; exact q1), (by rw [A2, if_neg (by decide)]; exact q2), (by rw [A2, if_neg (by decide)]; exact q4), (by rw [A2, if_neg (by decide)]; exact q5), (by rw [A2, if_neg (by decide)]; exact q6), (by rw [A2, if_neg (by decide)]; exact q7), (by rw [A2, if_pos rfl]), (by rw [A2, if_neg (by decide)]; exact q16), (by rw [A2, if_neg (by decide)]; exact q17), (by rw [A2, if_neg (by decide)]; exact q23), trivial⟩)
      replace hB := NZ.set (l' := [(1, .v (.d (Enc.enc a1))), (2, .box g1 ((Enc.cells a0).map LV.d)), (4, .box (g1 + 1) ((Enc.cells (AA.mk (VoiceBook.mk (Sl.nil : (Sl AK)) 0 (Sl.nil : (Sl AI))) (Sl.nil : (Sl (Sl (Ar 5 Int)))) (Mp.nil : (Mp 2 (Sl (Ar 5 Int)))))).map LV.d)), (5, .box (g3 + 1 + 1 + 1) (AU x9 low.length 12 (g3 + 1))), (6, .box (g18 + 1) [.d (.int x11)]), (7, .box g19 [Sl.lv v28]), (12, .mapo (g3 + 1) 2 (Dx (EX x43 (Bj.key (Ad.mk x11 x44)) v51))), (16, .v (.d (.int a0.Boys.len))), (17, .v (.d (.int x11))), (23, .v (.fn 79 [] [.fptr (AA.lc x9 low.length 12 (g3 + 1)) 0, .d (.fptr [.int x11] 0), .d (.fptr [Enc.enc a1] 0)]))]) hB 12 _ rfl (fun s ⟨q1, q2, q4, q5, q6, q7, q12, q16, q17, q23, _⟩ => ⟨(by rw [A2, if_neg (by decide)]; exact q1), (by rw [A2, if_neg (by decide)]; exact q2), (by rw [A2, if_neg (by decide)]; exact q4), (by rw [A2, if_neg (by decide)]; exact q5), (by rw [A2, if_neg (by decide)]; exact q6), (by rw [A2, if_neg (by decide)]; exact q7), (by rw [A2, if_pos rfl]), (by rw [A2, if_neg (by decide)]; exact q16), (by rw [A2, if_neg (by decide)]; exact q17), (by rw [A2, if_neg (by decide)]; exact q23), trivial⟩)
      obtain ⟨lw, hlow⟩ : ∃ q, q = (FS (FS lw low.length 12 (.mapo (g3 + 1) 2 (Dx (Eu (Sl.nil : (Sl (Ar 5 Int))) FX.coolE x43 (Bj.key (Ad.mk x11 x44)))))) low.length 12 (.mapo (g3 + 1) 2 (Dx (EX x43 (Bj.key (Ad.mk x11 x44)) v51)))) := ⟨_, rfl⟩
      rw [← hlow] at hl hB
      obtain ⟨m1, m2, m4, m5, m6, m7, m12, m16, m17, m23, -⟩ := NZ.all hB
      have hlt : low.length < lw.length := by have := NZ.len hB; omega
      refine lH (B := A0) (low := lw) [(5, .v (.ptr low.length 5 (g3 + 1 + 1 + 1) 0)), (6, .v (.ptr low.length 6 (g18 + 1) 0)), C_ 8 g27 a24, I_ 34 v32, I_ 35 (W (x44 + 1))] hl hf ?_ ?_
      ·simp only [rs, hl, nob hf, r5, r6, r8, r34, r35, m1, m2, m4, m5, m6, m7, m12, m16, m17, m23, hlt, reduceCtorEq, Nat.reduceEqDiff, Nat.reduceAdd]
      rintro s ⟨r5, r6, r8, r34, r35, -⟩ hl hf
      obtain rfl := oK k9
      exact ⟨rfl, ⟨r5, r6, r8, r34, r35, trivial⟩, (by rw [hl]; exact hB), hf⟩
     obtain rfl := oK k8
     exact ⟨by decide, ⟨rfl, ⟨r8, trivial⟩, (by rw [hl]; exact hB), hf⟩⟩
    intro j s hq
    obtain ⟨y45, rfl⟩ : ∃ x, x = o46 := ⟨_, rfl⟩
    try dsimp only at k7 hq
    obtain ⟨rfl, ⟨r8, -⟩, hB0, hf⟩ := hq
    obtain ⟨lw, hl⟩ : ∃ l, s.low = l := ⟨_, rfl⟩
    rw [hl] at hB0
    have hB := hB0
    obtain ⟨m1, m2, m4, m5, m6, m7, m12, m16, m17, m23, -⟩ := NZ.all hB
    have hlt : low.length < lw.length := by have := NZ.len hB; omega
    obtain rfl := oK k7
    exact ⟨rfl, rfl, by rw [hl]; exact ns hB (fun s ⟨q1, q2, q4, q5, q6, q7, q12, q16, q17, q23, _⟩ => ⟨q1, q2, q4, q5, q6, q7, q12, q16, q17, q23, trivial⟩)⟩
   ·intro s hl hf hq
    rcases o53 with ⟨y55, y56⟩ | _
    ·try dsimp only at k10 hq
     obtain ⟨r1, r2, r4, r5, r6, r7, r12, r16, r17, r23, -⟩ := hq
     refine yE ?_
     obtain ⟨v57, h58, k11⟩ := bnk k10
     have q60 := @Zb
     have q62 := OI (sz := 1) (x := x9.truths.unf) (y := (Sl.cold [y55] : Sl (Sl (Ar 5 Int)))) rfl rfl h58
     refine Ra hl hf ?_ (h := by intro c; simp only [(SK (LP := zL) (j := low.length) (t := 5) (gb := g3 + 1 + 1 + 1) (off := 3) (cs := (AU x9 low.length 12 (g3 + 1))) (cs' := (AU (AA.mk x9.VoiceBook x9.truths.cool x9.whole) low.length 12 (g3 + 1))) (x := x9.truths) (hx := rfl) (hc := MP x9 _ _ _)), (Lm (oe h58 (by simp))), rt, ps, nob hf, *, reduceCtorEq, Nat.reduceEqDiff, Nat.reduceAdd, Nat.reduceMul] <;> rfl)
     rintro g59 s ⟨r1, r2, r4, r5, r12, r16, r17, -⟩ hl hf
     refine Ra hl hf ?_
     rintro g64 s ⟨r1, r2, r4, r5, r12, r16, r17, -⟩ hl hf
     obtain rfl := oK k11
     exact ⟨rfl, ⟨r1, r2, r4, r5, r12, r16, r17, trivial⟩, hl, hf⟩
    ·cases k10
  obtain rfl := oK k2
  exact ⟨by decide, ⟨rfl, ⟨r2, r4, r5, r12, trivial⟩, hl, hf⟩⟩
 intro j s hq
 obtain ⟨y12, y13⟩ := o14
 try dsimp only at k1 hq
 obtain ⟨rfl, ⟨r2, r4, r5, r12, -⟩, hl, hf⟩ := hq
 have q66 := @Jm
 have q67 := @KL
 have q68 := @GI
 refine Ra hl hf ?_
 rintro g65 s ⟨r4, r12, -⟩ hl hf
 cases oK k1
 exact ⟨Or.inr rfl, hl, AS (Q1 (by rw [hl]; exact r4) r12)⟩
def pz := fun a0 a1 => Cq.mk (@I3 a0 a1)
end Go.Lf
