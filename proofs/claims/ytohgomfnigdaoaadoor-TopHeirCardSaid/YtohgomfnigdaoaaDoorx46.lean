/- A part of the proof. -/
import Derived.Test.YtohgomfnigdaoaaDoorx20
import Derived.Test.YtohgomfnigdaoaaDoorx22
import Derived.Test.YtohgomfnigdaoaaDoorx45
set_option linter.all false
set_option maxHeartbeats 9999999
namespace Go.Lf
open Go
theorem MO {low : List Fr} {a0 : (Sl (Sl (Ar 5 Int)))} {r : Int} (k0 : CJ a0 = some r) : LD zL 85 [.d (yA.enc a0), .d (.fn 69 [] [])] low (.d (.int r)) := by
 unfold CJ at k0; replace k0 := kq k0
 refine jG F6 Ip ?_
 rintro s r hl hf
 refine Ra hl hf ?_
 rintro g1 s r hl hf
 refine Ra hl hf ?_
 rintro g2 s r hl hf
 refine ye ?_
 obtain ⟨o5, l6, k1⟩ := yK k0
 refine A8 (f := BH a0) (E := fun (x : Int) s => Dc [E_ 0 a0, (1, .v (.d (.fn 69 [] []))), I_ 7 a0.len, I_ 8 x] s ∧ s.low = low ∧ yT F6 s) (Q := fun (o : ((Int) ⊕ (Unit))) j s => match o with | .inl w4 => j = .ret ∧ yH Ip.1 low (.d (.int w4)) .ret s | .inr _ => j = .exit 0 ∧ Dc [] s ∧ s.low = low ∧ yT F6 s) l6 ?_ ⟨r, hl, hf⟩ ?_
 ·rintro x3 s out ⟨r, hl, hf⟩ k2
  unfold BH at k2
  refine Ra hl hf ?_
  rintro g7 s r hl hf
  refine FI r.2.2.2.2.1 k2 (fun c8 k2 => ?_) fun c8 k2 => ?_
  ·refine ye <| Ra hl hf ?_
   rintro g9 s r hl hf
   obtain ⟨v10, h11, k3⟩ := yK k2
   obtain ⟨c12, hc12⟩ := IM (LP := zL) (ds := [yA.enc v10]) (HK v10); simp only [List.map_cons, List.map_nil] at hc12
   have q14 := @hc12
   refine Ra hl hf ?_
   rintro g13 s r hl hf
   refine FI r.2.2.2.2.2.1 k3 (fun c15 k3 => ?_) fun c15 k3 => ?_
   ·refine Ra hl hf ?_
    rintro g16 s r hl hf
    obtain rfl := oK k3
    exact ⟨by decide, ⟨rfl, ⟨Or.inr rfl, hl, AQ (AN r.1)⟩⟩⟩
   refine Ra hl hf ?_
   rintro g17 s r hl hf
   obtain rfl := oK k3
   exact ⟨rfl, r, hl, hf⟩
  obtain rfl := oK k2
  exact ⟨by decide, ⟨rfl, trivial, hl, hf⟩⟩
 intro j s hq
 rcases o5 with w4 | _
 ·try dsimp only at k1 hq
  obtain ⟨rfl, hq⟩ := hq
  cases oK k1
  exact hq
 try dsimp only at k1 hq
 obtain ⟨rfl, -, hl, hf⟩ := hq
 refine Ra hl hf ?_
 rintro g18 s r hl hf
 cases oK k1
 exact ⟨Or.inr rfl, hl, AQ (AN r.1)⟩
theorem Jq {low : List Fr} {a0 : (Sl (Sl (Ar 5 Int)))} {r : Bool} (k0 : BX a0 = some r) : LD zL 68 [.d (yA.enc a0), .d (.fn 69 [] [])] low (.d (.bool r)) := by
 unfold BX at k0; replace k0 := kq k0
 refine jG Lq MS ?_
 rintro s r hl hf
 refine Ra hl hf ?_
 rintro g1 s r hl hf
 obtain ⟨v2, h3, k1⟩ := yK k0
 have f4 : ∀ (e : xl) (c : Nat), (om zL).call 85 [.d (yA.enc a0), .d (.fn 69 [] [])] (low ++ [⟨e, none⟩]) c = some (.d (.int (v2)), low ++ [⟨e, none⟩], UA zL 85 [.d (yA.enc a0), .d (.fn 69 [] [])] (low ++ [⟨e, none⟩]) c) := fun e c => LD.om (MO h3) c
 have q6 := @f4
 refine Ra hl hf ?_
 rintro g5 s r hl hf
 cases oK k1
 exact ⟨Or.inr rfl, hl, AQ (AN r.1)⟩
theorem PG {a0 : AA} {r : Bool} (k0 : B7 a0 = some r) : Fin zL 47 [yA.enc a0] (.bool r) := by
 unfold B7 at k0; replace k0 := kq k0
 refine yR QG Qe ?_
 rintro low s r hl hf
 refine Ra hl hf ?_
 rintro g1 s r hl hf
 obtain ⟨v2, h3, k1⟩ := yK k0
 have q5 := LD.call (LP := zL) (ds := [yA.enc a0.truths, .fn 69 [] []]) (Jq h3)
 refine Ra hl hf ?_
 rintro g4 s r hl hf
 cases oK k1
 exact ⟨Or.inr rfl, hl, AQ (AN r.1)⟩
def Jf := fun a0 => Cq.mk (@PG a0)
theorem Yv {a0 : VoiceBook} {r : (Bool × Int)} (k0 : FM a0 = some r) : Fin zL 22 [yA.enc a0] (yA.enc r) := by
 unfold FM at k0; replace k0 := kq k0
 refine yR dE bQ ?_
 rintro low s r hl hf
 have q14 := @Ix
 have q15 := @Jf
 refine Ra hl hf ?_
 rintro g1 s r hl hf
 obtain ⟨v2, h3, k1⟩ := yK k0
 refine Ra hl hf ?_
 rintro g4 s r hl hf
 refine Ra hl hf ?_
 rintro g5 s r hl hf
 refine Qy r.2.2.1 k1 (fun c6 k1 => ?_) fun c6 k1 => ?_
 ·obtain ⟨v7, h8, k2⟩ := yK k1
  obtain ⟨v9, h10, k3⟩ := yK k2
  have q12 := Fin.call (LP := zL) (ds := [yA.enc a0, .nils]) (JQ h8)
  refine Ra hl hf ?_
  rintro g11 s r hl hf
  cases oK k3
  exact ⟨Or.inr rfl, hl, Bf (AN r.1) (AN r.2.1)⟩
 refine Ra hl hf ?_
 rintro g13 s r hl hf
 cases oK k1
 exact ⟨Or.inr rfl, hl, Bf (AN r.1) (AN r.2.1)⟩
def Ri := fun a0 => Cq.mk (@Yv a0)
theorem dB (a0 : Int) (a1 : Int) (a2 : Int) : Fin zL 24 [.int a0, .int a1, .int a2] (.bool (CX a0 a1 a2)) := by
 refine yR ea fG ?_
 rintro low s r hl hf
 refine Ra hl hf ?_
 rintro g1 s r hl hf
 refine Rx (fun g4 => [B_ 6 ((decide (a1 ≤ a0)) && (decide (a0 ≤ a2)))]) hl hf ?_
 rintro g4 s r hl hf
 exact ⟨Or.inr rfl, hl, AQ (AN r.1)⟩
def Um := fun a0 a1 a2 => (dB a0 a1 a2).call
theorem Yc {a0 : VoiceBook} {r : Bool} (k0 : Hg a0 = some r) : Fin zL 5 [yA.enc a0] (.bool r) := by
 unfold Hg at k0; replace k0 := kq k0
 refine yR b6 bn ?_
 rintro low s r hl hf
 have q14 := @Um
 have q15 := @Ix
 have q16 := @Ri
 refine Ra hl hf ?_
 rintro g1 s r hl hf
 obtain ⟨v2, h3, k1⟩ := yK k0
 refine Ra hl hf ?_
 rintro g4 s r hl hf
 obtain ⟨o11, q, k2⟩ := yK k1
 refine Rq (fun g13 => [B_ 2 o11]) hl hf q ?_
 rintro g13 s r hl hf
 cases oK k2
 exact ⟨Or.inr rfl, hl, AQ (AN r.1)⟩
def Ss := fun a0 => Cq.mk (@Yc a0)
theorem ax {a0 : Int} {a1 : Int} {r : Int} (k0 : Fa a0 a1 = some r) : Fin zL 8 [.int a0, .int a1] (.int r) := by
 unfold Fa at k0; replace k0 := kq k0
 refine yR gU ei ?_
 rintro low s r hl hf
 refine Ra hl hf ?_
 rintro g1 s r hl hf
 refine Ra hl hf ?_
 rintro g2 s r hl hf
 refine FI r.2.2.1 k0 (fun c3 k0 => ?_) fun c3 k0 => ?_
 ·refine Ra hl hf ?_
  rintro g4 s r hl hf
  cases oK k0
  exact ⟨Or.inr rfl, hl, AQ (AN r.1)⟩
 obtain ⟨v5, h6, k1⟩ := yK k0
 have q8 := qX h6
 refine Ra hl hf ?_
 rintro g7 s r hl hf
 refine Ra hl hf ?_
 rintro g9 s r hl hf
 refine FI r.2.2.1 k1 (fun c10 k1 => ?_) fun c10 k1 => ?_
 ·refine Ra hl hf ?_
  rintro g11 s r hl hf
  refine Ra hl hf ?_
  rintro g12 s r hl hf
  cases oK k1
  exact ⟨Or.inr rfl, hl, AQ (AN r.1)⟩
 refine Ra hl hf ?_
 rintro g13 s r hl hf
 cases oK k1
 exact ⟨Or.inr rfl, hl, AQ (AN r.1)⟩
def N7 := fun a0 a1 => Cq.mk (@ax a0 a1)
theorem dJ {a0 : (Sl Int)} {a1 : Int} {r : (Sl Int)} (k0 : O0 a0 a1 = some r) : Fin zL 7 [yA.enc a0, .int a1] (yA.enc r) := by
 unfold O0 at k0; replace k0 := kq k0
 refine yR dY gl ?_
 rintro low s r hl hf
 refine Ra hl hf ?_
 rintro g1 s r hl hf
 obtain ⟨v2, h3, k1⟩ := yK k0
 obtain ⟨v4, h5, k2⟩ := yK k1
 have q7 := Eb (sz := 1) (x := (Sl.hot [] : Sl Int)) (y := a0) rfl rfl h3
 have q8 := Eb (sz := 1) (x := v2) (y := (Sl.cold [a1] : Sl Int)) rfl rfl h5
 refine Ra hl hf ?_
 rintro g6 s r hl hf
 cases oK k2
 exact ⟨Or.inr rfl, hl, AQ (cQ r.1)⟩
def fa := fun a0 a1 => Cq.mk (@dJ a0 a1)
theorem XT (a0 : Int) (a1 : Int) : Fin zL 26 [.int a0, .int a1] (yA.enc (Bh a0 a1)) := by
 refine yR YM ZS ?_
 rintro low s r hl hf
 have q2 := @oZ
 refine Ra hl hf ?_
 rintro g1 s r hl hf
 have q4 := @Ug
 refine Ra hl hf ?_
 rintro g3 s r hl hf
 exact ⟨Or.inr rfl, hl, AQ (D7 r.1 rfl)⟩
def KV := fun a0 a1 => (XT a0 a1).call
theorem Yy {a0 : Int} {a1 : Int} {r : BW} (k0 : Hw a0 a1 = some r) : Fin zL 9 [.int a0, .int a1] (yA.enc r) := by
 unfold Hw at k0; replace k0 := kq k0
 refine yR a8 bT ?_
 rintro low s r hl hf
 have q9 := @KV
 have q10 := @N7
 have q2 := @oZ
 refine Ra hl hf ?_
 rintro g1 s r hl hf
 obtain ⟨v3, h4, k1⟩ := yK k0
 refine Ra hl hf ?_
 rintro g5 s r hl hf
 obtain ⟨v6, h7, k2⟩ := yK k1
 refine Ra hl hf ?_
 rintro g8 s r hl hf
 cases oK k2
 exact ⟨Or.inr rfl, hl, AQ (D7 r.1 rfl)⟩
def Sj := fun a0 a1 => Cq.mk (@Yy a0 a1)
theorem bK (a0 : Int) : Fin zL 50 [.int a0] (yA.enc (Hy a0)) := by
 refine yR dV fZ ?_
 rintro low s r hl hf
 have q2 := @oZ
 refine Ra hl hf ?_
 rintro g1 s r hl hf
 have q4 := @Ug
 refine Ra hl hf ?_
 rintro g3 s r hl hf
 exact ⟨Or.inr rfl, hl, AQ (D7 r.1 rfl)⟩
def dT := fun a0 => (bK a0).call
theorem ZI {r : VoiceBook} (k0 : Ef = some r) : Fin zL 25 [] (yA.enc r) := by
 unfold Ef at k0; replace k0 := kq k0
 refine yR ME bf ?_
 rintro low s - hl hf
 have q27 := @dT
 have q2 := @iT
 refine Ra hl hf ?_
 rintro g1 s r hl hf
 have q4 := @PT
 refine Ra hl hf ?_
 rintro g3 s r hl hf
 refine Ra hl hf ?_
 rintro g5 s r hl hf
 refine ye ?_
 obtain ⟨o9, l10, k1⟩ := yK k0
 refine A8 (f := IB) (E := fun (x : VoiceBook × Int) s => Dc [C_ 0 g1 (VoiceBook.mk (Sl.nil : (Sl AL)) 0 (Sl.nil : (Sl AK))), (1, .box (g3 + 1) (Bz x.1)), I_ 2 x.2] s ∧ s.low = low ∧ yT ME s) (Q := fun (y8 : VoiceBook) j s => j = .exit 0 ∧ Dc [C_ 0 g1 (VoiceBook.mk (Sl.nil : (Sl AL)) 0 (Sl.nil : (Sl AK))), (1, .box (g3 + 1) (Bz y8))] s ∧ s.low = low ∧ yT ME s) l10 ?_ ⟨⟨r.1, (qf r.2.1 (T8 (VoiceBook.mk (Sl.nil : (Sl AL)) 2 (Sl.nil : (Sl AK))))), r.2.2.1, trivial⟩, hl, hf⟩ ?_
 ·rintro ⟨x6, x7⟩ s out ⟨r, hl, hf⟩ k2
  dsimp only at r
  simp only [IB] at k2
  refine Ra hl hf ?_
  rintro g11 s r hl hf
  refine FI r.2.2.2.1 k2 (fun c12 k2 => ?_) fun c12 k2 => ?_
  ·refine ye ?_
   obtain ⟨v13, h14, k3⟩ := yK k2
   obtain ⟨v15, h16, k4⟩ := yK k3
   obtain ⟨v17, h18, k5⟩ := yK k4
   have q20 := @Ol
   have q22 := Eb (sz := 11) (x := x6.Boys.unf) (y := (Sl.cold [(AL.mk (Hy v13) (Hy v15) (BW.mk 0 0) (BW.mk 0 0) 0 (Hy 9))] : Sl AL)) rfl rfl h18
   refine Ra hl hf ?_ (h := by intro c; simp only [(Jy (LP := zL) (j := low.length) (t := 1) (gb := g3 + 1) (off := 0) (cs := (Bz x6)) (cs' := (Bz (VoiceBook.mk x6.Boys.cool x6.Weeks x6.Trials))) (x := x6.Boys) (hx := rfl) (hc := PQ x6)), (PE (bi h18 (by simp))), rt, ps, yO hf, *, reduceCtorEq, Nat.reduceEqDiff, Nat.reduceAdd, Nat.reduceMul] <;> rfl)
   rintro g19 s r hl hf
   refine Ra hl hf ?_
   rintro g24 s r hl hf
   obtain rfl := oK k5
   exact ⟨rfl, r, hl, hf⟩
  obtain rfl := oK k2
  exact ⟨by decide, ⟨rfl, ⟨r.1, r.2.1, trivial⟩, hl, hf⟩⟩
 intro j s hq
 obtain ⟨y8, rfl⟩ : ∃ x, x = o9 := ⟨_, rfl⟩
 try dsimp only at k1 hq
 obtain ⟨rfl, r, hl, hf⟩ := hq
 have q26 := @MJ
 refine Ra hl hf ?_
 rintro g25 s r hl hf
 cases oK k1
 exact ⟨Or.inr rfl, hl, AQ (D7 r.1 rfl)⟩
def bh := Cq.mk (@ZI)
theorem YX {a0 : VoiceBook} {a1 : Bool} {r : (AA × Int)} (k0 : Bc a0 a1 = some r) : Fin zL 41 [yA.enc a0, .bool a1] (yA.enc r) := by
 unfold Bc at k0; replace k0 := kq k0
 refine yR bW aZ ?_
 rintro low s r hl hf
 have q24 := @Ix
 have q25 := @Jf
 have q2 := @OD
 refine Ra hl hf ?_
 rintro g1 s r hl hf
 obtain ⟨v3, h4, k1⟩ := yK k0
 refine Ra hl hf ?_
 rintro g5 s r hl hf
 refine Ra hl hf ?_
 rintro g6 s r hl hf
 refine Qy r.2.2.2.2.1 k1 (fun c7 k1 => ?_) fun c7 k1 => ?_
 ·refine Ra hl hf ?_
  rintro g8 s r hl hf
  refine Qy r.2.2.1 k1 (fun c9 k1 => ?_) fun c9 k1 => ?_
  ·obtain ⟨v10, h11, k2⟩ := yK k1
   have q13 := Fin.call (LP := zL) (ds := [yA.enc a0, .nils]) (JQ h11)
   refine Ra hl hf ?_
   rintro g12 s r hl hf
   obtain ⟨v14, h15, k3⟩ := yK k2
   refine Ra hl hf ?_
   rintro g16 s r hl hf
   refine Qy r.2.2.1 k3 (fun c17 k3 => ?_) fun c17 k3 => ?_
   ·refine Ra hl hf ?_
    rintro g18 s r hl hf
    cases oK k3
    exact ⟨Or.inr rfl, hl, Bf (D7 r.1 rfl) (AN r.2.1)⟩
   refine Ra hl hf ?_
   rintro g19 s r hl hf
   cases oK k3
   exact ⟨Or.inr rfl, hl, Bf (D7 r.1 rfl) (AN r.2.1)⟩
  have q21 := @SK
  refine Ra hl hf ?_
  rintro g20 s r hl hf
  cases oK k1
  exact ⟨Or.inr rfl, hl, Bf (D7 r.1 rfl) (AN r.2.1)⟩
 have q23 := @SK
 refine Ra hl hf ?_
 rintro g22 s r hl hf
 cases oK k1
 exact ⟨Or.inr rfl, hl, Bf (D7 r.1 rfl) (AN r.2.1)⟩
def Su := fun a0 a1 => Cq.mk (@YX a0 a1)
theorem LG {a0 : AA} {a1 : Int} {a2 : (Ar 5 Int)} {a3 : Int} {r : Int} (k0 : ED a0 a1 a2 a3 = some r) : Fin zL 81 [yA.enc a0, .int a1, yA.enc a2, .int a3] (.int r) := by
 unfold ED at k0; replace k0 := kq k0
 refine yR NL NC ?_
 rintro low s r hl hf
 have q20 := @Lp
 refine Ra hl hf ?_
 rintro g1 s r hl hf
 obtain ⟨v2, h3, k1⟩ := yK k0
 obtain ⟨v4, h5, k2⟩ := yK k1
 have q7 := EK h3
 have q8 := CZ h3 rfl rfl
 refine Ra hl hf ?_
 rintro g6 s r hl hf
 obtain ⟨v9, h10, k3⟩ := yK k2
 obtain ⟨v11, h12, k4⟩ := yK k3
 obtain ⟨v13, h14, k5⟩ := yK k4
 have q16 := EK h10
 have q17 := CZ h10 rfl rfl
 have q18 := EK h12
 have q19 := CZ h12 rfl rfl
 refine Ra hl hf ?_
 rintro g15 s r hl hf
 cases oK k5
 exact ⟨Or.inr rfl, hl, AQ (AN r.1)⟩
def nD := fun a0 a1 a2 a3 => Cq.mk (@LG a0 a1 a2 a3)
theorem K2 {a0 : AA} {a1 : Int} {a2 : (Ar 5 Int)} {a3 : Int} {a4 : Int} {r : Bool} (k0 : Da a0 a1 a2 a3 a4 = some r) : Fin zL 65 [yA.enc a0, .int a1, yA.enc a2, .int a3, .int a4] (.bool r) := by
 unfold Da at k0; replace k0 := kq k0
 refine yR NE NF ?_
 rintro low s r hl hf
 have q22 := @EH
 refine Ra hl hf ?_
 rintro g1 s r hl hf
 obtain ⟨o11, q12, k1⟩ := yK k0
 refine mC [B_ 10 o11] hl hf ?_ ?_
 ·by_cases c2 : (decide (BU.key a2 = BU.key (⟨[(-1), (-1), (-1), (-1), (-1)], rfl⟩ : (Ar 5 Int)))) = true
  ·rw [if_pos c2] at q12
   have e1 := oI q12
   simp only [rs, ps, JY, Ji, hl, yO hf, r, QJ, c2, ← e1, reduceCtorEq, Nat.reduceEqDiff, Nat.reduceAdd]
  rw [if_neg c2] at q12
  have c2 := eq_false_of_ne_true c2
  obtain ⟨v3, h4, q19⟩ := ya q12
  by_cases c5 : (decide (a3 < v3)) = true
  ·rw [if_pos c5] at q19
   obtain ⟨v6, h7, q20⟩ := ya q19
   obtain ⟨v9, h10, q21⟩ := ya q20
   have e1 := oI q21
   obtain ⟨c8, hc8⟩ := IM (LP := zL) (ds := [yA.enc a0, .int a1, yA.enc a2, .int a3]) (LG h10); simp only [List.map_cons, List.map_nil] at hc8
   simp only [rs, ps, JY, Ji, hl, yO hf, r, QJ, c2, (EK h4), (CZ h4 rfl rfl), c5, (EK h7), (CZ h7 rfl rfl), hc8, (JE a4 v6 v9).call, ← e1, reduceCtorEq, Nat.reduceEqDiff, Nat.reduceAdd]
  rw [if_neg c5] at q19
  have c5 := eq_false_of_ne_true c5
  have e1 := oI q19
  simp only [rs, ps, JY, Ji, hl, yO hf, r, QJ, c2, (EK h4), (CZ h4 rfl rfl), c5, ← e1, reduceCtorEq, Nat.reduceEqDiff, Nat.reduceAdd]
 rintro s r hl hf
 cases oK k1
 exact ⟨Or.inr rfl, hl, AQ (AN r.1)⟩
def nE := fun a0 a1 a2 a3 a4 => Cq.mk (@K2 a0 a1 a2 a3 a4)
theorem Qd {a0 : AA} {a1 : Int} {a2 : Int} {a3 : Int} {r : AW} (k0 : CM a0 a1 a2 a3 = some r) : Fin zL 45 [yA.enc a0, .int a1, .int a2, .int a3] (yA.enc r) := by
 unfold CM at k0; replace k0 := kq k0
 refine yR G6 RO ?_
 rintro low s r hl hf
 have q2 := @ai
 refine Ra hl hf ?_
 rintro g1 s r hl hf
 obtain ⟨v3, h4, k1⟩ := yK k0
 have q6 := @VU
 refine Ra hl hf ?_
 rintro g5 s r hl hf
 have q8 := @J2
 have q9 := fun s ro => cx (n := 2) s ro a0.whole (AY.mk a1 a2) (Sl.nil : (Sl (Ar 5 Int))) (.nils) rfl (by decide) rfl
 refine Ra hl hf ?_
 rintro g7 s r hl hf
 refine ye ?_
 obtain ⟨o13, l14, k2⟩ := yK k1
 refine A8 (f := BQ a0 a1 a2 a3) (E := fun (x : AW × Int) s => Dc [I_ 1 a1, I_ 2 a2, I_ 3 a3, C_ 4 g1 a0, C_ 8 (g1 + 1) (AW.mk 0 0), C_ 9 (g5 + 1 + 1 + 1 + 1 + 1 + 1 + 1) x.1, E_ 24 ((Mp.get a0.whole (BU.key (AY.mk a1 a2))).getD (Sl.nil : (Sl (Ar 5 Int)))), I_ 25 (((Mp.get a0.whole (BU.key (AY.mk a1 a2))).getD (Sl.nil : (Sl (Ar 5 Int)))).len), I_ 26 x.2] s ∧ s.low = low ∧ yT G6 s) (Q := fun (y12 : AW) j s => j = .exit 0 ∧ Dc [C_ 4 g1 a0, C_ 8 (g1 + 1) (AW.mk 0 0), C_ 9 (g5 + 1 + 1 + 1 + 1 + 1 + 1 + 1) y12] s ∧ s.low = low ∧ yT G6 s) l14 ?_ ⟨r, hl, hf⟩ ?_
 ·rintro ⟨yu, xq⟩ s out ⟨r, hl, hf⟩ k3
  dsimp only at r
  simp only [BQ] at k3
  refine Ra hl hf ?_
  rintro g15 s r hl hf
  refine FI r.2.2.2.2.2.2.2.2.2.1 k3 (fun c16 k3 => ?_) fun c16 k3 => ?_
  ·refine ye ?_
   obtain ⟨v17, h18, k4⟩ := yK k3
   refine Ra hl hf ?_
   rintro g19 s r hl hf
   obtain ⟨v21, h22, k5⟩ := yK k4
   obtain ⟨c20, hc20⟩ := IM (LP := zL) (ds := [yA.enc a0, .int a1, yA.enc v17, .int a2, .int a3]) (K2 h22); simp only [List.map_cons, List.map_nil] at hc20
   have q24 := @hc20
   refine Ra hl hf ?_
   rintro g23 s r hl hf
   refine FI r.2.2.2.2.2.2.2.2.2.1 k5 (fun yp k5 => ?_) fun yp k5 => ?_
   ·refine Ra hl hf ?_
    rintro g26 s r hl hf
    refine Ra hl hf ?_
    rintro g27 s r hl hf
    obtain rfl := oK k5
    exact ⟨rfl, r, hl, hf⟩
   refine Ra hl hf ?_
   rintro g28 s r hl hf
   obtain rfl := oK k5
   exact ⟨rfl, r, hl, hf⟩
  obtain rfl := oK k3
  exact ⟨by decide, ⟨rfl, ⟨r.2.2.2.1, r.2.2.2.2.1, r.2.2.2.2.2.1, trivial⟩, hl, hf⟩⟩
 intro j s hq
 obtain ⟨y12, rfl⟩ : ∃ x, x = o13 := ⟨_, rfl⟩
 try dsimp only at k2 hq
 obtain ⟨rfl, r, hl, hf⟩ := hq
 refine Ra hl hf ?_
 rintro g29 s r hl hf
 cases oK k2
 exact ⟨Or.inr rfl, hl, AQ (D7 r.1 rfl)⟩
def Jx := fun a0 a1 a2 a3 => Cq.mk (@Qd a0 a1 a2 a3)
theorem JO (a0 : AW) : Fin zL 106 [yA.enc a0] (.bool (DI a0)) := by
 refine yR Rk S4 ?_
 rintro low s r hl hf
 refine Ra hl hf ?_
 rintro g1 s r hl hf
 refine Ra hl hf ?_
 rintro g2 s r hl hf
 exact ⟨Or.inr rfl, hl, AQ (AN r.1)⟩
def RS := fun a0 => (JO a0).call
theorem dK {a0 : VoiceBook} {a1 : Int} {a2 : Int} {a3 : BW} {r : (Int × Int)} (k0 : FZ a0 a1 a2 a3 = some r) : Fin zL 19 [yA.enc a0, .int a1, .int a2, yA.enc a3] (yA.enc r) := by
 unfold FZ at k0; replace k0 := kq k0
 refine yR Gx Un ?_
 rintro low s r hl hf
 have q44 := @Su
 have q45 := @Jx
 have q46 := @MM
 have q47 := @PY
 have q48 := @KU
 have q49 := @RS
 refine Ra hl hf ?_
 rintro g1 s r hl hf
 obtain ⟨⟨o10, o11⟩, q, k1⟩ := yK k0
 try dsimp only at k1
 refine Rq (fun g13 => [C_ 10 (g13 + 1 + 1 + 1 + 1 + 1 + 1 + 1 + 1 + 1 + 1 + 1 + 1 + 1 + 1 + 1 + 1 + 1) o10, I_ 11 o11]) hl hf q ?_
 rintro g13 s r hl hf
 refine Ra hl hf ?_
 rintro g14 s r hl hf
 refine Qy r.2.2.2.2.2.2.1 k1 (fun c15 k1 => ?_) fun c15 k1 => ?_
 ·refine Ra hl hf ?_
  rintro g16 s r hl hf
  refine ye ?_
  obtain ⟨o19, l20, k2⟩ := yK k1
  refine A8 (f := DT a0 a1 a2 a3 o10) (E := fun (x : Int) s => Dc [I_ 1 a1, I_ 2 a2, C_ 7 (g1 + 1) a3, C_ 10 (g13 + 1 + 1 + 1 + 1 + 1 + 1 + 1 + 1 + 1 + 1 + 1 + 1 + 1 + 1 + 1 + 1 + 1) o10, I_ 36 a0.Boys.len, I_ 37 x] s ∧ s.low = low ∧ yT Gx s) (Q := fun (o : ((Int × Int) ⊕ (Unit))) j s => match o with | .inl w18 => j = .ret ∧ yH Un.1 low (.d (yA.enc w18)) .ret s | .inr _ => j = .exit 0 ∧ Dc [C_ 7 (g1 + 1) a3, C_ 10 (g13 + 1 + 1 + 1 + 1 + 1 + 1 + 1 + 1 + 1 + 1 + 1 + 1 + 1 + 1 + 1 + 1 + 1) o10] s ∧ s.low = low ∧ yT Gx s) l20 ?_ ⟨r, hl, hf⟩ ?_
  ·rintro x17 s out ⟨r, hl, hf⟩ k3
   unfold DT at k3
   refine Ra hl hf ?_
   rintro g21 s r hl hf
   refine FI r.2.2.2.2.2.2.1 k3 (fun yn k3 => ?_) fun yn k3 => ?_
   ·refine ye <| Ra hl hf ?_
    rintro g23 s r hl hf
    refine Ra hl hf ?_
    rintro g24 s r hl hf
    refine FI r.2.2.2.2.2.2.2.1 k3 (fun yp k3 => ?_) fun yp k3 => ?_
    ·refine Ra hl hf ?_
     rintro g26 s r hl hf
     obtain rfl := oK k3
     exact ⟨rfl, r, hl, hf⟩
    refine Ra hl hf ?_
    rintro g27 s r hl hf
    refine ye ?_
    obtain ⟨o29, l30, k4⟩ := yK k3
    refine A8 (f := DU a2 a3 o10 x17) (E := fun (x : Int) s => Dc [I_ 1 a1, I_ 2 a2, C_ 7 (g1 + 1) a3, C_ 10 (g13 + 1 + 1 + 1 + 1 + 1 + 1 + 1 + 1 + 1 + 1 + 1 + 1 + 1 + 1 + 1 + 1 + 1) o10, I_ 12 x17, I_ 13 x, I_ 36 a0.Boys.len, I_ 37 x17] s ∧ s.low = low ∧ yT Gx s) (Q := fun (o : ((Unit) ⊕ (Unit))) j s => match o with | .inl _ => j = .exit 1 ∧ Dc [I_ 1 a1, I_ 2 a2, C_ 7 (g1 + 1) a3, C_ 10 (g13 + 1 + 1 + 1 + 1 + 1 + 1 + 1 + 1 + 1 + 1 + 1 + 1 + 1 + 1 + 1 + 1 + 1) o10, I_ 36 a0.Boys.len, I_ 37 x17] s ∧ s.low = low ∧ yT Gx s | .inr _ => j = .exit 2 ∧ Dc [C_ 7 (g1 + 1) a3, C_ 10 (g13 + 1 + 1 + 1 + 1 + 1 + 1 + 1 + 1 + 1 + 1 + 1 + 1 + 1 + 1 + 1 + 1 + 1) o10, I_ 12 x17] s ∧ s.low = low ∧ yT Gx s) l30 ?_ ⟨r, hl, hf⟩ ?_
    ·rintro x28 s out ⟨r, hl, hf⟩ k5
     unfold DU at k5
     refine Ra hl hf ?_
     rintro g31 s r hl hf
     refine FI r.2.2.2.2.2.2.2.2.1 k5 (fun c32 k5 => ?_) fun c32 k5 => ?_
     ·refine ye ?_
      obtain ⟨v33, h34, k6⟩ := yK k5
      have q37 := @wX
      refine Ra hl hf ?_ (h := by intro c; simp only [(show ∀ (cs : List DV) (o : Nat), TU 1 2 (.d (.fptr cs o)) (.d (.int 1)) = some (.d (.fptr cs (o + 1))) from fun _ _ => rfl), rt, ps, yO hf, *, reduceCtorEq, Nat.reduceEqDiff, Nat.reduceAdd, Nat.reduceMul] <;> rfl)
      rintro g35 s r hl hf
      refine Qy r.2.2.2.2.2.2.2.2.1 k6 (fun c38 k6 => ?_) fun c38 k6 => ?_
      ·refine Ra hl hf ?_
       rintro g39 s r hl hf
       obtain rfl := oK k6
       exact ⟨rfl, r, hl, hf⟩
      obtain rfl := oK k6
      exact ⟨by decide, ⟨rfl, ⟨r.1, r.2.1, r.2.2.1, r.2.2.2.1, r.2.2.2.2.2.2.1, r.2.2.2.2.2.2.2.1, trivial⟩, hl, hf⟩⟩
     obtain rfl := oK k5
     exact ⟨by decide, ⟨rfl, ⟨r.2.2.1, r.2.2.2.1, r.2.2.2.2.1, trivial⟩, hl, hf⟩⟩
    intro j s hq
    rcases o29 with _ | _
    ·try dsimp only at k4 hq
     obtain ⟨rfl, r, hl, hf⟩ := hq
     refine Ra hl hf ?_
     rintro g40 s r hl hf
     obtain rfl := oK k4
     exact ⟨rfl, r, hl, hf⟩
    try dsimp only at k4 hq
    obtain ⟨rfl, r, hl, hf⟩ := hq
    refine Ra hl hf ?_
    rintro g41 s r hl hf
    obtain rfl := oK k4
    exact ⟨by decide, ⟨rfl, ⟨Or.inr rfl, hl, Bf (AN r.1) (AN r.2.1)⟩⟩⟩
   obtain rfl := oK k3
   exact ⟨by decide, ⟨rfl, ⟨r.2.2.1, r.2.2.2.1, trivial⟩, hl, hf⟩⟩
  intro j s hq
  rcases o19 with w18 | _
  ·try dsimp only at k2 hq
   obtain ⟨rfl, hq⟩ := hq
   cases oK k2
   exact hq
  try dsimp only at k2 hq
  obtain ⟨rfl, r, hl, hf⟩ := hq
  refine Ra hl hf ?_
  rintro g42 s r hl hf
  cases oK k2
  exact ⟨Or.inr rfl, hl, Bf (AN r.1) (AN r.2.1)⟩
 refine Ra hl hf ?_
 rintro g43 s r hl hf
 cases oK k1
 exact ⟨Or.inr rfl, hl, Bf (AN r.1) (AN r.2.1)⟩
def Ui := fun a0 a1 a2 a3 => Cq.mk (@dK a0 a1 a2 a3)
theorem a9 {a0 : VoiceBook} {a1 : (Sl Int)} {a2 : (Sl BW)} {r : BenchBook} (k0 : CQ a0 a1 a2 = some r) : Fin zL 10 [yA.enc a0, yA.enc a1, yA.enc a2] (yA.enc r) := by
 unfold CQ at k0; replace k0 := kq k0
 refine yR Nz gW ?_
 rintro low s r hl hf
 have q2 := @jU
 refine Ra hl hf ?_
 rintro g1 s r hl hf
 refine Ra hl hf ?_
 rintro g3 s r hl hf
 refine Ra hl hf ?_
 rintro g4 s r hl hf
 refine ye ?_
 obtain ⟨o8, l9, k1⟩ := yK k0
 refine A8 (f := Ed a1 a2) (E := fun (x : BenchBook × Int) s => Dc [E_ 1 a1, E_ 2 a2, C_ 6 (g1 + 1) (BenchBook.mk (VoiceBook.mk (Sl.nil : (Sl AL)) 0 (Sl.nil : (Sl AK))) (Sl.nil : (Sl AI)) 0), (7, .box (g3 + 1 + 1) (Bw x.1)), I_ 8 x.2] s ∧ s.low = low ∧ yT Nz s) (Q := fun (y7 : BenchBook) j s => j = .exit 0 ∧ Dc [C_ 6 (g1 + 1) (BenchBook.mk (VoiceBook.mk (Sl.nil : (Sl AL)) 0 (Sl.nil : (Sl AK))) (Sl.nil : (Sl AI)) 0), (7, .box (g3 + 1 + 1) (Bw y7))] s ∧ s.low = low ∧ yT Nz s) l9 ?_ ⟨⟨r.1, r.2.1, r.2.2.1, (qf r.2.2.2.1 (TV (BenchBook.mk a0 (Sl.nil : (Sl AI)) 3))), r.2.2.2.2.1, trivial⟩, hl, hf⟩ ?_
 ·rintro ⟨x5, x6⟩ s out ⟨r, hl, hf⟩ k2
  dsimp only at r
  simp only [Ed] at k2
  refine Ra hl hf ?_
  rintro g10 s r hl hf
  refine FI r.2.2.2.2.2.1 k2 (fun c11 k2 => ?_) fun c11 k2 => ?_
  ·refine ye ?_
   obtain ⟨v12, h13, k3⟩ := yK k2
   obtain ⟨v14, h15, k4⟩ := yK k3
   obtain ⟨v16, h17, k5⟩ := yK k4
   have q19 := @Ol
   have q21 := Eb (sz := 2) (x := x5.Pieces.unf) (y := (Sl.cold [(AI.mk v12 (Sl.cold [(A4.mk v14 1)] : Sl A4))] : Sl AI)) rfl rfl h17
   refine Ra hl hf ?_ (h := by intro c; simp only [(Jy (LP := zL) (j := low.length) (t := 7) (gb := g3 + 1 + 1) (off := 3) (cs := (Bw x5)) (cs' := (Bw (BenchBook.mk x5.Voice x5.Pieces.cool x5.Most))) (x := x5.Pieces) (hx := rfl) (hc := PO x5)), (PH (bi h17 (by simp))), rt, ps, yO hf, *, reduceCtorEq, Nat.reduceEqDiff, Nat.reduceAdd, Nat.reduceMul] <;> rfl)
   rintro g18 s r hl hf
   refine Ra hl hf ?_
   rintro g23 s r hl hf
   obtain rfl := oK k5
   exact ⟨rfl, r, hl, hf⟩
  obtain rfl := oK k2
  exact ⟨by decide, ⟨rfl, ⟨r.2.2.1, r.2.2.2.1, trivial⟩, hl, hf⟩⟩
 intro j s hq
 obtain ⟨y7, rfl⟩ : ∃ x, x = o8 := ⟨_, rfl⟩
 try dsimp only at k1 hq
 obtain ⟨rfl, r, hl, hf⟩ := hq
 have q25 := @Md
 refine Ra hl hf ?_
 rintro g24 s r hl hf
 cases oK k1
 exact ⟨Or.inr rfl, hl, AQ (D7 r.1 rfl)⟩
def Nc := fun a0 a1 a2 => Cq.mk (@a9 a0 a1 a2)
theorem Wg (a0 : Int) (a1 : Int) (a2 : Int) : Fin zL 29 [.int a0, .int a1, .int a2] (.bool (AO a0 a1 a2)) := by
 refine yR Y6 YF ?_
 rintro low s r hl hf
 refine Ra hl hf ?_
 rintro g1 s r hl hf
 refine Rx (fun g4 => [B_ 6 ((decide (a1 ≤ a0)) && (decide (a0 ≤ a2)))]) hl hf ?_
 rintro g4 s r hl hf
 exact ⟨Or.inr rfl, hl, AQ (AN r.1)⟩
def KF := fun a0 a1 a2 => (Wg a0 a1 a2).call
theorem VO (a0 : BenchBook) (a1 : Int) : Fin zL 28 [yA.enc a0, .int a1] (.bool (BI a0 a1)) := by
 refine yR YB V0 ?_
 rintro low s r hl hf
 have q3 := @KF
 refine Ra hl hf ?_
 rintro g1 s r hl hf
 refine Ra hl hf ?_
 rintro g2 s r hl hf
 exact ⟨Or.inr rfl, hl, AQ (AN r.1)⟩
def Ns := fun a0 a1 => (VO a0 a1).call
theorem ZD {a0 : BenchBook} {r : Int} (k0 : Gf a0 = some r) : Fin zL 51 [yA.enc a0] (.int r) := by
 unfold Gf at k0; replace k0 := kq k0
 refine yR G4 ck ?_
 rintro low s r hl hf
 have q46 := @KF
 have q47 := @Ix
 refine Ra hl hf ?_
 rintro g1 s r hl hf
 obtain ⟨o6, q, k2⟩ := yK k0
 refine Rq (fun g8 => [B_ 3 o6]) hl hf q ?_
 rintro g8 s r hl hf
 refine Ra hl hf ?_
 rintro g9 s r hl hf
 refine ye ?_
 obtain ⟨o13, l14, k3⟩ := yK k2
 refine A8 (f := DZ a0) (E := fun (x : Bool × Int) s => Dc [C_ 1 g1 a0, B_ 3 x.1, E_ 24 a0.Pieces, I_ 25 a0.Pieces.len, I_ 26 x.2] s ∧ s.low = low ∧ yT G4 s) (Q := fun (y12 : Bool) j s => j = .exit 0 ∧ Dc [C_ 1 g1 a0, B_ 3 y12] s ∧ s.low = low ∧ yT G4 s) l14 ?_ ⟨r, hl, hf⟩ ?_
 ·rintro ⟨yu, xq⟩ s out ⟨r, hl, hf⟩ k4
  dsimp only at r
  simp only [DZ] at k4
  refine Ra hl hf ?_
  rintro g15 s r hl hf
  refine FI r.2.2.2.2.2.1 k4 (fun c16 k4 => ?_) fun c16 k4 => ?_
  ·refine ye ?_
   obtain ⟨v17, h18, k5⟩ := yK k4
   refine Ra hl hf ?_
   rintro g19 s r hl hf
   refine Rx (fun g23 => [B_ 3 (yu && ((AO v17.Week 0 (W (a0.Voice.Weeks - 1))) && (AO v17.Parts.len 1 3)))]) hl hf ?_
   rintro g23 s r hl hf
   refine Ra hl hf ?_
   rintro g24 s r hl hf
   refine ye ?_
   obtain ⟨o28, l29, k6⟩ := yK k5
   refine A8 (f := EB v17) (E := fun (x : Bool × Int) s => Dc [C_ 1 g1 a0, B_ 3 x.1, E_ 24 a0.Pieces, I_ 25 a0.Pieces.len, I_ 26 xq, E_ 47 v17.Parts, I_ 48 v17.Parts.len, I_ 49 x.2] s ∧ s.low = low ∧ yT G4 s) (Q := fun (y27 : Bool) j s => j = .exit 2 ∧ Dc [C_ 1 g1 a0, B_ 3 y27, E_ 24 a0.Pieces, I_ 25 a0.Pieces.len, I_ 26 xq] s ∧ s.low = low ∧ yT G4 s) l29 ?_ ⟨r, hl, hf⟩ ?_
   ·rintro ⟨x25, x26⟩ s out ⟨r, hl, hf⟩ k7
    dsimp only at r
    simp only [EB] at k7
    refine Ra hl hf ?_
    rintro g30 s r hl hf
    refine FI r.2.2.2.2.2.2.2.2.1 k7 (fun c31 k7 => ?_) fun c31 k7 => ?_
    ·refine ye ?_
     obtain ⟨v32, h33, k8⟩ := yK k7
     refine Ra hl hf ?_
     rintro g34 s r hl hf
     refine Rx (fun g39 => [B_ 3 (x25 && ((AO v32.Notes.Low 0 v32.Notes.High) && ((decide (v32.Notes.High ≤ 40)) && (AO v32.Many 1 3))))]) hl hf ?_
     rintro g39 s r hl hf
     refine Ra hl hf ?_
     rintro g40 s r hl hf
     obtain rfl := oK k8
     exact ⟨rfl, r, hl, hf⟩
    obtain rfl := oK k7
    exact ⟨by decide, ⟨rfl, ⟨r.1, r.2.1, r.2.2.1, r.2.2.2.1, r.2.2.2.2.1, trivial⟩, hl, hf⟩⟩
   intro j s hq
   obtain ⟨y27, rfl⟩ : ∃ x, x = o28 := ⟨_, rfl⟩
   try dsimp only at k6 hq
   obtain ⟨rfl, r, hl, hf⟩ := hq
   refine Ra hl hf ?_
   rintro g41 s r hl hf
   obtain rfl := oK k6
   exact ⟨rfl, r, hl, hf⟩
  obtain rfl := oK k4
  exact ⟨by decide, ⟨rfl, ⟨r.1, r.2.1, trivial⟩, hl, hf⟩⟩
 intro j s hq
 obtain ⟨y12, rfl⟩ : ∃ x, x = o13 := ⟨_, rfl⟩
 try dsimp only at k3 hq
 obtain ⟨rfl, r, hl, hf⟩ := hq
 refine Ra hl hf ?_
 rintro g42 s r hl hf
 refine Qy r.1 k3 (fun c43 k3 => ?_) fun c43 k3 => ?_
 ·refine Ra hl hf ?_
  rintro g44 s r hl hf
  cases oK k3
  exact ⟨Or.inr rfl, hl, AQ (AN r.1)⟩
 refine Ra hl hf ?_
 rintro g45 s r hl hf
 cases oK k3
 exact ⟨Or.inr rfl, hl, AQ (AN r.1)⟩
def a7 := fun a0 => Cq.mk (@ZD a0)
theorem Nh : Fin zL 52 [] (yA.enc (gq)) := by
 refine yR Y1 ZB ?_
 rintro low s - hl hf
 have q2 := @Vw
 refine Ra hl hf ?_
 rintro g1 s r hl hf
 have q4 := @IX
 refine Ra hl hf ?_
 rintro g3 s r hl hf
 exact ⟨Or.inr rfl, hl, AQ (D7 r.1 rfl)⟩
def pq := Nh.call
theorem HI (a0 : Int) : Fin zL 71 [.int a0] (.bool (G5 a0)) := by
 refine yR Tm TN ?_
 rintro low s r hl hf
 refine Ra hl hf ?_
 rintro g1 s - hl hf
 refine Ra hl hf ?_
 rintro g2 s r hl hf
 exact ⟨Or.inr rfl, hl, AQ (AN r.1)⟩
def mJ := fun a0 => (HI a0).call
theorem JC (a0 : AW) : Fin zL 105 [yA.enc a0] (.bool (GY a0)) := by
 refine yR RQ Sm ?_
 rintro low s r hl hf
 refine Ra hl hf ?_
 rintro g1 s r hl hf
 refine Ra hl hf ?_
 rintro g2 s r hl hf
 exact ⟨Or.inr rfl, hl, AQ (AN r.1)⟩
def RP := fun a0 => (JC a0).call
theorem PD {a0 : AW} {r : Int} (k0 : CS a0 = some r) : Fin zL 87 [yA.enc a0] (.int r) := by
 unfold CS at k0; replace k0 := kq k0
 refine yR Gn P6 ?_
 rintro low s r hl hf
 have q23 := @RP
 refine Ra hl hf ?_
 rintro g1 s r hl hf
 refine Ra hl hf ?_
 rintro g2 s r hl hf
 have q4 := @tH
 refine Ra hl hf ?_
 rintro g3 s r hl hf
 refine ye ?_
 obtain ⟨o8, l9, k1⟩ := yK k0
 refine A8 (f := Au a0) (E := fun (x : Int × Int) s => Dc [C_ 1 g1 a0, I_ 3 x.1, (6, .v (.d (.agg [.fn 105 [] [], .fn 106 [] []]))), I_ 7 x.2] s ∧ s.low = low ∧ yT Gn s) (Q := fun (y7 : Int) j s => j = .exit 0 ∧ Dc [C_ 1 g1 a0, I_ 3 y7] s ∧ s.low = low ∧ yT Gn s) l9 ?_ ⟨r, hl, hf⟩ ?_
 ·rintro ⟨x5, x6⟩ s out ⟨r, hl, hf⟩ k2
  dsimp only at r
  simp only [Au] at k2
  refine Ra hl hf ?_
  rintro g10 s r hl hf
  refine FI r.2.2.2.2.1 k2 (fun c11 k2 => ?_) fun c11 k2 => ?_
  ·refine ye ?_
   obtain ⟨v12, h13, k3⟩ := yK k2
   refine Ra hl hf ?_ (h := by intro c; simp only [(t7 (x := .fn 105 [] []) (y := .fn 106 [] []) h13), rt, ps, yO hf, *, reduceCtorEq, Nat.reduceEqDiff, Nat.reduceAdd, Nat.reduceMul] <;> rfl)
   rintro g14 s r hl hf
   refine mC [C_ 1 g1 a0, I_ 3 x5, (6, .v (.d (.agg [.fn 105 [] [], .fn 106 [] []]))), I_ 7 x6, B_ 12 (if v12 then (DI a0) else (GY a0))] hl hf ?_ ?_
   ·cases c16 : v12
    ·simp only [rs, ps, sB, rp, hl, yO hf, r, c16, (JC a0).call, reduceCtorEq, Nat.reduceEqDiff, Nat.reduceAdd]
    simp only [rs, ps, sB, rp, hl, yO hf, r, c16, (JO a0).call, reduceCtorEq, Nat.reduceEqDiff, Nat.reduceAdd]
   rintro s r hl hf
   refine FI r.2.2.2.2.1 k3 (fun c18 k3 => ?_) fun c18 k3 => ?_
   ·refine Ra hl hf ?_
    rintro g19 s r hl hf
    refine Ra hl hf ?_
    rintro g20 s r hl hf
    obtain rfl := oK k3
    exact ⟨rfl, r, hl, hf⟩
   refine Ra hl hf ?_
   rintro g21 s r hl hf
   obtain rfl := oK k3
   exact ⟨rfl, r, hl, hf⟩
  obtain rfl := oK k2
  exact ⟨by decide, ⟨rfl, ⟨r.1, r.2.1, trivial⟩, hl, hf⟩⟩
 intro j s hq
 obtain ⟨y7, rfl⟩ : ∃ x, x = o8 := ⟨_, rfl⟩
 try dsimp only at k1 hq
 obtain ⟨rfl, r, hl, hf⟩ := hq
 refine Ra hl hf ?_
 rintro g22 s r hl hf
 cases oK k1
 exact ⟨Or.inr rfl, hl, AQ (AN r.1)⟩
def QK := fun a0 => Cq.mk (@PD a0)
theorem ZK {a0 : VoiceBook} {a1 : Int} {a2 : Int} {a3 : Int} {r : (Int × Int)} (k0 : Gj a0 a1 a2 a3 = some r) : Fin zL 80 [yA.enc a0, .int a1, .int a2, .int a3] (yA.enc r) := by
 unfold Gj at k0; replace k0 := kq k0
 refine yR cF cp ?_
 rintro low s r hl hf
 have q22 := @Su
 have q23 := @Jx
 have q24 := @MM
 have q25 := @Pj
 have q26 := @KU
 have q27 := @QK
 refine Ra hl hf ?_
 rintro g1 s r hl hf
 obtain ⟨⟨o10, o11⟩, q, k1⟩ := yK k0
 try dsimp only at k1
 refine Rq (fun g13 => [C_ 10 (g13 + 1 + 1 + 1 + 1 + 1 + 1 + 1 + 1 + 1 + 1 + 1 + 1 + 1 + 1 + 1 + 1 + 1) o10, I_ 11 o11]) hl hf q ?_
 rintro g13 s r hl hf
 refine Ra hl hf ?_
 rintro g14 s r hl hf
 refine Qy r.2.2.2.2.2.1 k1 (fun c15 k1 => ?_) fun c15 k1 => ?_
 ·obtain ⟨v16, h17, k2⟩ := yK k1
  obtain ⟨v18, h19, k3⟩ := yK k2
  refine Ra hl hf ?_
  rintro g20 s r hl hf
  cases oK k3
  exact ⟨Or.inr rfl, hl, Bf (AN r.1) (AN r.2.1)⟩
 refine Ra hl hf ?_
 rintro g21 s r hl hf
 cases oK k1
 exact ⟨Or.inr rfl, hl, Bf (AN r.1) (AN r.2.1)⟩
def az := fun a0 a1 a2 a3 => Cq.mk (@ZK a0 a1 a2 a3)
theorem JS {low : List Fr} {a0 : AB} {a1 : AG} {a2 : Int} {wja0 : Nat} {wta0 : Nat} {wga0 : Nat} (hwa0 : wja0 < low.length) {r : Bool} (k0 : B0 a0 a1 a2 = some r) : LD zL 64 [.agg (AB.lc a0 wja0 wta0 wga0), .d (yA.enc a1), .d (.int a2)] low (.d (.bool r)) := by
 unfold B0 at k0; replace k0 := kq k0
 refine jG IY NH ?_
 rintro s r hl hf
 have q29 := @az
 have q2 := @TL
 refine Ra hl hf ?_
 rintro g1 s r hl hf
 obtain ⟨v3, h4, k1⟩ := yK k0
 have q6 := @QW
 refine Ra hl hf ?_
 rintro g5 s r hl hf
 obtain ⟨v7, h8, k2⟩ := yK k1
 refine Ra hl hf ?_
 rintro g9 s r hl hf
 refine Ra hl hf ?_
 rintro g10 s r hl hf
 refine ye ?_
 obtain ⟨o13, l14, k3⟩ := yK k2
 refine A8 (f := BP a0 a2 v3 v7) (E := fun (x : Int) s => Dc [I_ 2 a2, (3, .box g1 (AB.lc a0 wja0 wta0 wga0)), C_ 7 (g5 + 1 + 1 + 1 + 1 + 1 + 1 + 1) v3, C_ 8 (g9 + 1 + 1 + 1 + 1 + 1 + 1 + 1) v7.Notes, I_ 31 (W ((W (v7.Notes.High - v7.Notes.Low)) + 1)), I_ 32 x] s ∧ s.low = low ∧ yT IY s) (Q := fun (o : ((Bool) ⊕ (Unit))) j s => match o with | .inl w12 => j = .ret ∧ yH NH.1 low (.d (.bool w12)) .ret s | .inr _ => j = .exit 0 ∧ Dc [(3, .box g1 (AB.lc a0 wja0 wta0 wga0)), C_ 7 (g5 + 1 + 1 + 1 + 1 + 1 + 1 + 1) v3, C_ 8 (g9 + 1 + 1 + 1 + 1 + 1 + 1 + 1) v7.Notes] s ∧ s.low = low ∧ yT IY s) l14 ?_ ⟨r, hl, hf⟩ ?_
 ·rintro xq s out ⟨r, hl, hf⟩ k4
  unfold BP at k4
  refine Ra hl hf ?_
  rintro g15 s r hl hf
  refine FI r.2.2.2.2.2.2.1 k4 (fun c16 k4 => ?_) fun c16 k4 => ?_
  ·refine ye <| Ra hl hf ?_
   rintro g17 s r hl hf
   obtain ⟨v18, h19, k5⟩ := yK k4
   have q21 := @OC
   refine Ra hl hf ?_
   rintro g20 s r hl hf
   refine Rx (fun g24 => [B_ 54 (if (decide (v18.2 = 0)) then (decide (v18.1 < 2)) else true)]) hl hf ?_
   rintro g24 s r hl hf
   refine FI r.2.2.2.2.2.2.1 k5 (fun yp k5 => ?_) fun yp k5 => ?_
   ·refine Ra hl hf ?_
    rintro g26 s r hl hf
    obtain rfl := oK k5
    exact ⟨by decide, ⟨rfl, ⟨Or.inr rfl, hl, AQ (AN r.1)⟩⟩⟩
   refine Ra hl hf ?_
   rintro g27 s r hl hf
   obtain rfl := oK k5
   exact ⟨rfl, r, hl, hf⟩
  obtain rfl := oK k4
  exact ⟨by decide, ⟨rfl, ⟨r.2.1, r.2.2.1, r.2.2.2.1, trivial⟩, hl, hf⟩⟩
 intro j s hq
 rcases o13 with w12 | _
 ·try dsimp only at k3 hq
  obtain ⟨rfl, hq⟩ := hq
  cases oK k3
  exact hq
 try dsimp only at k3 hq
 obtain ⟨rfl, r, hl, hf⟩ := hq
 refine Ra hl hf ?_
 rintro g28 s r hl hf
 cases oK k3
 exact ⟨Or.inr rfl, hl, AQ (AN r.1)⟩
theorem TW {low : List Fr} {a0 : BenchBook} {r : AB} (k0 : Ey a0 = some r) : LD zL 38 [.d (yA.enc a0), .d (.agg [.fn 71 [] []])] low (.d (yA.enc r)) := by
 unfold Ey at k0; replace k0 := kq k0
 refine jG BB Pm ?_
 rintro s r hl hf
 have q2 := @js
 have q3 := @eX
 have q4 := @IS
 refine Ra hl hf ?_
 rintro g1 s r hl hf
 have q6 := @Fp
 have q7 := @Hk
 have q8 := @O8
 have q9 := @Jg
 have q10 := @IS
 have q11 := @nq
 refine Ra hl hf ?_ (h := by intro c; simp only [(TQ (n := 2) (AG.mk (-1) (-1)) rfl (by decide)), (Q7 (LP := zL) (t := 13) (gm := c + 1) (key := (BU.key (AG.mk (-1) (-1)))) (a := (Sl.nil : (Sl Int))) (vd := .nils) (hav := rfl)), rt, ps, yO hf, *, reduceCtorEq, Nat.reduceEqDiff, Nat.reduceAdd, Nat.reduceMul] <;> rfl)
 rintro g5 s r hl hf
 have q15 := @J5
 have q16 := @Dy
 refine Ra hl hf ?_
 rintro g14 s r hl hf
 refine Ra hl hf ?_
 rintro g17 s r hl hf
 refine ye ?_
 obtain ⟨o21, l22, k1⟩ := yK k0
 refine A8 (f := EU a0) (E := fun (x : (List (List Int × (Sl Int))) × Int) s => Dc [C_ 2 g1 a0, (3, .box (g1 + 1) [.d (.fn 71 [] [])]), C_ 4 (g1 + 1 + 1) (AB.mk (BenchBook.mk (VoiceBook.mk (Sl.nil : (Sl AL)) 0 (Sl.nil : (Sl AK))) (Sl.nil : (Sl AI)) 0) (Mp.nil : (Mp 2 (Sl Int)))), (5, .box (g5 + 1 + 1 + 1 + 1 + 1 + 1) (AB.lc (AB.mk a0 (Mp.nil : (Mp 2 (Sl Int)))) low.length 13 (g5 + 1))), (6, .v (.fn 64 [.agg (AB.lc (AB.mk a0 (Mp.nil : (Mp 2 (Sl Int)))) low.length 13 (g5 + 1))] [])), (13, .mapo (g5 + 1) 2 (Ds x.1)), E_ 20 a0.Pieces, I_ 21 a0.Pieces.len, I_ 22 x.2] s ∧ s.low = low ∧ yT BB s) (Q := fun (y20 : (List (List Int × (Sl Int)))) j s => j = .exit 0 ∧ Dc [C_ 2 g1 a0, (3, .box (g1 + 1) [.d (.fn 71 [] [])]), C_ 4 (g1 + 1 + 1) (AB.mk (BenchBook.mk (VoiceBook.mk (Sl.nil : (Sl AL)) 0 (Sl.nil : (Sl AK))) (Sl.nil : (Sl AI)) 0) (Mp.nil : (Mp 2 (Sl Int)))), (5, .box (g5 + 1 + 1 + 1 + 1 + 1 + 1) (AB.lc (AB.mk a0 (Mp.nil : (Mp 2 (Sl Int)))) low.length 13 (g5 + 1))), (13, .mapo (g5 + 1) 2 (Ds y20))] s ∧ s.low = low ∧ yT BB s) l22 ?_ ⟨r, hl, hf⟩ ?_
 ·rintro ⟨x18, x19⟩ s out ⟨r, hl, hf⟩ k2
  dsimp only at r
  simp only [EU] at k2
  refine Ra hl hf ?_
  rintro g23 s r hl hf
  refine FI r.2.2.2.2.2.2.2.2.2.1 k2 (fun c24 k2 => ?_) fun c24 k2 => ?_
  ·refine ye ?_
   obtain ⟨v25, h26, k3⟩ := yK k2
   refine Ra hl hf ?_
   rintro g27 s r hl hf
   refine Ra hl hf ?_
   rintro g28 s r hl hf
   refine ye ?_
   obtain ⟨o32, l33, k4⟩ := yK k3
   refine A8 (f := EW a0 x19 v25) (E := fun (x : (List (List Int × (Sl Int))) × Int) s => Dc [C_ 2 g1 a0, (3, .box (g1 + 1) [.d (.fn 71 [] [])]), C_ 4 (g1 + 1 + 1) (AB.mk (BenchBook.mk (VoiceBook.mk (Sl.nil : (Sl AL)) 0 (Sl.nil : (Sl AK))) (Sl.nil : (Sl AI)) 0) (Mp.nil : (Mp 2 (Sl Int)))), (5, .box (g5 + 1 + 1 + 1 + 1 + 1 + 1) (AB.lc (AB.mk a0 (Mp.nil : (Mp 2 (Sl Int)))) low.length 13 (g5 + 1))), (6, .v (.fn 64 [.agg (AB.lc (AB.mk a0 (Mp.nil : (Mp 2 (Sl Int)))) low.length 13 (g5 + 1))] [])), I_ 7 x19, (13, .mapo (g5 + 1) 2 (Ds x.1)), E_ 20 a0.Pieces, I_ 21 a0.Pieces.len, I_ 22 x19, I_ 29 v25.Parts.len, I_ 30 x.2] s ∧ s.low = low ∧ yT BB s) (Q := fun (y31 : (List (List Int × (Sl Int)))) j s => j = .exit 2 ∧ Dc [C_ 2 g1 a0, (3, .box (g1 + 1) [.d (.fn 71 [] [])]), C_ 4 (g1 + 1 + 1) (AB.mk (BenchBook.mk (VoiceBook.mk (Sl.nil : (Sl AL)) 0 (Sl.nil : (Sl AK))) (Sl.nil : (Sl AI)) 0) (Mp.nil : (Mp 2 (Sl Int)))), (5, .box (g5 + 1 + 1 + 1 + 1 + 1 + 1) (AB.lc (AB.mk a0 (Mp.nil : (Mp 2 (Sl Int)))) low.length 13 (g5 + 1))), (6, .v (.fn 64 [.agg (AB.lc (AB.mk a0 (Mp.nil : (Mp 2 (Sl Int)))) low.length 13 (g5 + 1))] [])), (13, .mapo (g5 + 1) 2 (Ds y31)), E_ 20 a0.Pieces, I_ 21 a0.Pieces.len, I_ 22 x19] s ∧ s.low = low ∧ yT BB s) l33 ?_ ⟨r, hl, hf⟩ ?_
   ·rintro ⟨x29, x30⟩ s out ⟨r, hl, hf⟩ k5
    dsimp only at r
    simp only [EW] at k5
    refine Ra hl hf ?_
    rintro g34 s r hl hf
    refine FI r.2.2.2.2.2.2.2.2.2.2.2.2.1 k5 (fun c35 k5 => ?_) fun c35 k5 => ?_
    ·refine ye <| Ra hl hf ?_
     rintro g36 s r hl hf
     have q38 := @E7
     refine Ra hl hf ?_
     rintro g37 s r hl hf
     refine Ra hl hf ?_
     rintro g39 s r hl hf
     refine ye ?_
     obtain ⟨o43, l44, k6⟩ := yK k5
     refine A8 (f := EQ a0 x19 x30) (E := fun (x : (List (List Int × (Sl Int))) × Int) s => Dc [C_ 2 g1 a0, (3, .box (g1 + 1) [.d (.fn 71 [] [])]), C_ 4 (g1 + 1 + 1) (AB.mk (BenchBook.mk (VoiceBook.mk (Sl.nil : (Sl AL)) 0 (Sl.nil : (Sl AK))) (Sl.nil : (Sl AI)) 0) (Mp.nil : (Mp 2 (Sl Int)))), (5, .box (g5 + 1 + 1 + 1 + 1 + 1 + 1) (AB.lc (AB.mk a0 (Mp.nil : (Mp 2 (Sl Int)))) low.length 13 (g5 + 1))), (6, .v (.fn 64 [.agg (AB.lc (AB.mk a0 (Mp.nil : (Mp 2 (Sl Int)))) low.length 13 (g5 + 1))] [])), I_ 7 x19, C_ 10 (g37 + 1 + 1 + 1) (AG.mk x19 x30), (13, .mapo (g5 + 1) 2 (Ds x.1)), E_ 20 a0.Pieces, I_ 21 a0.Pieces.len, I_ 22 x19, I_ 29 v25.Parts.len, I_ 30 x30, I_ 39 a0.Voice.Boys.len, I_ 40 x.2] s ∧ s.low = low ∧ yT BB s) (Q := fun (y42 : (List (List Int × (Sl Int)))) j s => j = .exit 4 ∧ Dc [C_ 2 g1 a0, (3, .box (g1 + 1) [.d (.fn 71 [] [])]), C_ 4 (g1 + 1 + 1) (AB.mk (BenchBook.mk (VoiceBook.mk (Sl.nil : (Sl AL)) 0 (Sl.nil : (Sl AK))) (Sl.nil : (Sl AI)) 0) (Mp.nil : (Mp 2 (Sl Int)))), (5, .box (g5 + 1 + 1 + 1 + 1 + 1 + 1) (AB.lc (AB.mk a0 (Mp.nil : (Mp 2 (Sl Int)))) low.length 13 (g5 + 1))), (6, .v (.fn 64 [.agg (AB.lc (AB.mk a0 (Mp.nil : (Mp 2 (Sl Int)))) low.length 13 (g5 + 1))] [])), I_ 7 x19, C_ 10 (g37 + 1 + 1 + 1) (AG.mk x19 x30), (13, .mapo (g5 + 1) 2 (Ds y42)), E_ 20 a0.Pieces, I_ 21 a0.Pieces.len, I_ 22 x19, I_ 29 v25.Parts.len, I_ 30 x30] s ∧ s.low = low ∧ yT BB s) l44 ?_ ⟨r, hl, hf⟩ ?_
     ·rintro ⟨x40, x41⟩ s out ⟨r, hl, hf⟩ k7
      dsimp only at r
      simp only [EQ] at k7
      refine Ra hl hf ?_
      rintro g45 s r hl hf
      refine FI r.2.2.2.2.2.2.2.2.2.2.2.2.2.2.2.1 k7 (fun c46 k7 => ?_) fun c46 k7 => ?_
      ·refine ye <| Ra hl hf ?_
       rintro g47 s r hl hf
       obtain ⟨o53, q54, k8⟩ := yK k7
       refine mC [C_ 2 g1 a0, (3, .box (g1 + 1) [.d (.fn 71 [] [])]), C_ 4 (g1 + 1 + 1) (AB.mk (BenchBook.mk (VoiceBook.mk (Sl.nil : (Sl AL)) 0 (Sl.nil : (Sl AK))) (Sl.nil : (Sl AI)) 0) (Mp.nil : (Mp 2 (Sl Int)))), (5, .box (g5 + 1 + 1 + 1 + 1 + 1 + 1) (AB.lc (AB.mk a0 (Mp.nil : (Mp 2 (Sl Int)))) low.length 13 (g5 + 1))), (6, .v (.fn 64 [.agg (AB.lc (AB.mk a0 (Mp.nil : (Mp 2 (Sl Int)))) low.length 13 (g5 + 1))] [])), I_ 7 x19, C_ 10 (g37 + 1 + 1 + 1) (AG.mk x19 x30), I_ 11 x41, (13, .mapo (g5 + 1) 2 (Ds x40)), E_ 20 a0.Pieces, I_ 21 a0.Pieces.len, I_ 22 x19, I_ 29 v25.Parts.len, I_ 30 x30, I_ 39 a0.Voice.Boys.len, I_ 40 x41, B_ 53 o53] hl hf ?_ ?_
       ·by_cases c49 : (G5 x41) = true
        ·rw [if_pos c49] at q54
         have e1 := oI q54
         obtain ⟨c48, hc48⟩ := IM (LP := zL) (ds := [.int x41]) (HI x41); simp only [List.map_cons, List.map_nil] at hc48
         simp only [rs, ps, Bj, HF, Ih, DR, hl, yO hf, r, hc48, c49, ← e1, reduceCtorEq, Nat.reduceEqDiff, Nat.reduceAdd]
        rw [if_neg c49] at q54
        have c49 := eq_false_of_ne_true c49
        obtain ⟨v50, h51, q72⟩ := ya q54
        have e1 := oI q72
        obtain ⟨c48, hc48⟩ := IM (LP := zL) (ds := [.int x41]) (HI x41); simp only [List.map_cons, List.map_nil] at hc48
        have f52 : ∀ (e : xl) (c : Nat), (om zL).call 64 [.agg (AB.lc (AB.mk a0 (Mp.nil : (Mp 2 (Sl Int)))) low.length 13 (g5 + 1)), .d (yA.enc (AG.mk x19 x30)), .d (.int x41)] (low ++ [⟨e, none⟩]) c = some (.d (.bool (v50)), low ++ [⟨e, none⟩], UA zL 64 [.agg (AB.lc (AB.mk a0 (Mp.nil : (Mp 2 (Sl Int)))) low.length 13 (g5 + 1)), .d (yA.enc (AG.mk x19 x30)), .d (.int x41)] (low ++ [⟨e, none⟩]) c) := fun e c => LD.om (JS (by first | omega | (simp only [List.length_append, List.length_cons, List.length_nil]; omega)) h51) c
        simp only [rs, ps, Bj, HF, Ih, DR, hl, yO hf, r, hc48, c49, f52, ← e1, reduceCtorEq, Nat.reduceEqDiff, Nat.reduceAdd]
       rintro s r hl hf
       refine FI r.2.2.2.2.2.2.2.2.2.2.2.2.2.2.2.2.1 k8 (fun c57 k8 => ?_) fun c57 k8 => ?_
       ·refine Ra hl hf ?_
        rintro g58 s r hl hf
        obtain rfl := oK k8
        exact ⟨rfl, r, hl, hf⟩
       obtain ⟨v59, h60, k9⟩ := yK k8
       have q62 := @O8
       have q63 := @Jg
       have q64 := @JK
       have q68 := Eb (sz := 1) (x := (NJ (Sl.nil : (Sl Int)) x40 (BU.key (AG.mk x19 x30)))) (y := (Sl.cold [x41] : Sl Int)) rfl rfl h60
       refine Ra hl hf ?_ (h := by intro c; simp only [(TQ (n := 2) (AG.mk x19 x30) rfl (by decide)), (SH (LP := zL) (t := 13) (gm := g5 + 1) (key := (BU.key (AG.mk x19 x30))) (es := x40) (z := (Sl.nil : (Sl Int))) (hz := rfl)), (bp (LP := zL) (a := (NJ (Sl.nil : (Sl Int)) x40 (BU.key (AG.mk x19 x30)))) (y := .d (.int (G1 x40 (BU.key (AG.mk x19 x30)))))), (R9 (LP := zL) (x := Sl.lv (Sl.spent (NJ (Sl.nil : (Sl Int)) x40 (BU.key (AG.mk x19 x30))))) (y := .int (G1 x40 (BU.key (AG.mk x19 x30))))), (SY (LP := zL) (t := 13) (gm := g5 + 1) (key := (BU.key (AG.mk x19 x30))) (es := x40) (z := (Sl.nil : (Sl Int))) (a := v59)), rt, ps, yO hf, *, reduceCtorEq, Nat.reduceEqDiff, Nat.reduceAdd, Nat.reduceMul] <;> rfl)
       rintro g61 s r hl hf
       refine Ra hl hf ?_
       rintro g71 s r hl hf
       obtain rfl := oK k9
       exact ⟨rfl, r, hl, hf⟩
      obtain rfl := oK k7
      exact ⟨by decide, ⟨rfl, ⟨r.1, r.2.1, r.2.2.1, r.2.2.2.1, r.2.2.2.2.1, r.2.2.2.2.2.1, r.2.2.2.2.2.2.1, r.2.2.2.2.2.2.2.1, r.2.2.2.2.2.2.2.2.1, r.2.2.2.2.2.2.2.2.2.1, r.2.2.2.2.2.2.2.2.2.2.1, r.2.2.2.2.2.2.2.2.2.2.2.1, r.2.2.2.2.2.2.2.2.2.2.2.2.1, trivial⟩, hl, hf⟩⟩
     intro j s hq
     obtain ⟨y42, rfl⟩ : ∃ x, x = o43 := ⟨_, rfl⟩
     try dsimp only at k6 hq
     obtain ⟨rfl, r, hl, hf⟩ := hq
     refine Ra hl hf ?_
     rintro g73 s r hl hf
     obtain rfl := oK k6
     exact ⟨rfl, r, hl, hf⟩
    obtain rfl := oK k5
    exact ⟨by decide, ⟨rfl, ⟨r.1, r.2.1, r.2.2.1, r.2.2.2.1, r.2.2.2.2.1, r.2.2.2.2.2.2.1, r.2.2.2.2.2.2.2.1, r.2.2.2.2.2.2.2.2.1, r.2.2.2.2.2.2.2.2.2.1, trivial⟩, hl, hf⟩⟩
   intro j s hq
   obtain ⟨y31, rfl⟩ : ∃ x, x = o32 := ⟨_, rfl⟩
   try dsimp only at k4 hq
   obtain ⟨rfl, r, hl, hf⟩ := hq
   refine Ra hl hf ?_
   rintro g74 s r hl hf
   obtain rfl := oK k4
   exact ⟨rfl, r, hl, hf⟩
  obtain rfl := oK k2
  exact ⟨by decide, ⟨rfl, ⟨r.1, r.2.1, r.2.2.1, r.2.2.2.1, r.2.2.2.2.2.1, trivial⟩, hl, hf⟩⟩
 intro j s hq
 obtain ⟨y20, rfl⟩ : ∃ x, x = o21 := ⟨_, rfl⟩
 try dsimp only at k1 hq
 obtain ⟨rfl, r, hl, hf⟩ := hq
 have q76 := @Fp
 have q77 := @Hk
 have q78 := @Dy
 refine Ra hl hf ?_
 rintro g75 s r hl hf
 cases oK k1
 exact ⟨Or.inr rfl, hl, AQ (Kx (by rw [hl]; exact r.1) r.2.1)⟩
theorem ZR {a0 : BenchBook} {a1 : Bool} {r : (AB × Int)} (k0 : Be a0 a1 = some r) : Fin zL 27 [yA.enc a0, .bool a1] (yA.enc r) := by
 unfold Be at k0; replace k0 := kq k0
 refine yR bw dN ?_
 rintro low s r hl hf
 have q26 := @a7
 have q27 := @Ri
 have q2 := @IS
 refine Ra hl hf ?_
 rintro g1 s r hl hf
 obtain ⟨v3, h4, k1⟩ := yK k0
 refine Ra hl hf ?_
 rintro g5 s r hl hf
 refine Ra hl hf ?_
 rintro g6 s r hl hf
 refine Qy r.2.2.2.2.1 k1 (fun c7 k1 => ?_) fun c7 k1 => ?_
 ·refine Ra hl hf ?_
  rintro g8 s r hl hf
  refine Qy r.2.2.1 k1 (fun c9 k1 => ?_) fun c9 k1 => ?_
  ·obtain ⟨v10, h11, k2⟩ := yK k1
   refine Ra hl hf ?_
   rintro g12 s r hl hf
   refine Ra hl hf ?_
   rintro g13 s r hl hf
   refine Qy r.2.2.1 k2 (fun c14 k2 => ?_) fun c14 k2 => ?_
   ·obtain ⟨v15, h16, k3⟩ := yK k2
    have q18 := Fin.call (LP := zL) (n := 52) (ds := []) (v := .agg [.fn 71 [] []]) (Nh)
    have q19 := LD.call (LP := zL) (ds := [yA.enc a0, .agg [.fn 71 [] []]]) (TW h16)
    refine Ra hl hf ?_
    rintro g17 s r hl hf
    cases oK k3
    exact ⟨Or.inr rfl, hl, Bf (D7 r.1 rfl) (AN r.2.1)⟩
   have q21 := @Lh
   refine Ra hl hf ?_
   rintro g20 s r hl hf
   cases oK k2
   exact ⟨Or.inr rfl, hl, Bf (D7 r.1 rfl) (AN r.2.1)⟩
  have q23 := @Lh
  refine Ra hl hf ?_
  rintro g22 s r hl hf
  cases oK k1
  exact ⟨Or.inr rfl, hl, Bf (D7 r.1 rfl) (AN r.2.1)⟩
 have q25 := @Lh
 refine Ra hl hf ?_
 rintro g24 s r hl hf
 cases oK k1
 exact ⟨Or.inr rfl, hl, Bf (D7 r.1 rfl) (AN r.2.1)⟩
def Fh := fun a0 a1 => Cq.mk (@ZR a0 a1)
theorem d6 {a0 : BenchBook} {a1 : Int} {a2 : Int} {r : ((Sl Int) × Int)} (k0 : GL a0 a1 a2 = some r) : Fin zL 11 [yA.enc a0, .int a1, .int a2] (yA.enc r) := by
 unfold GL at k0; replace k0 := kq k0
 refine yR iy ik ?_
 rintro low s r hl hf
 have q23 := @Fh
 have q24 := @Ns
 have q25 := @KF
 refine Ra hl hf ?_
 rintro g1 s r hl hf
 obtain ⟨⟨o9, o10⟩, q, k1⟩ := yK k0
 try dsimp only at k1
 refine Rq (fun g12 => [C_ 8 (g12 + 1 + 1 + 1 + 1 + 1 + 1 + 1 + 1 + 1 + 1 + 1 + 1 + 1 + 1 + 1 + 1 + 1 + 1 + 1 + 1) o9, I_ 9 o10]) hl hf q ?_
 rintro g12 s r hl hf
 refine Ra hl hf ?_
 rintro g13 s r hl hf
 refine Qy r.2.2.2.2.1 k1 (fun c14 k1 => ?_) fun c14 k1 => ?_
 ·have q16 := @E7
  have q17 := fun s ro => cx (n := 2) s ro o9.able (AG.mk a1 a2) (Sl.nil : (Sl Int)) (.nils) rfl (by decide) rfl
  refine Ra hl hf ?_
  rintro g15 s r hl hf
  obtain ⟨v18, h19, k2⟩ := yK k1
  have q21 := OO (sz := 1) rfl h19
  refine Ra hl hf ?_
  rintro g20 s r hl hf
  cases oK k2
  exact ⟨Or.inr rfl, hl, Bf (jx r.1) (AN r.2.1)⟩
 refine Ra hl hf ?_
 rintro g22 s r hl hf
 cases oK k1
 exact ⟨Or.inr rfl, hl, Bf (AN r.1) (AN r.2.1)⟩
def QC := fun a0 a1 a2 => Cq.mk (@d6 a0 a1 a2)
theorem FB {a0 : AB} {a1 : (Sl Int)} {r : (Sl Int)} (k0 : Bv a0 a1 = some r) : Fin zL 32 [yA.enc a0, yA.enc a1] (yA.enc r) := by
 unfold Bv at k0; replace k0 := kq k0
 refine yR Hn T9 ?_
 rintro low s r hl hf
 have q23 := @Ku
 refine Ra hl hf ?_
 rintro g1 s r hl hf
 refine Ra hl hf ?_
 rintro g2 s r hl hf
 refine Ra hl hf ?_
 rintro g3 s r hl hf
 refine ye ?_
 obtain ⟨o7, l8, k1⟩ := yK k0
 refine A8 (f := Bi a0 a1) (E := fun (x : (Sl Int) × Int) s => Dc [E_ 1 a1, (5, .v (Sl.lv x.1)), I_ 10 a0.BenchBook.Pieces.len, I_ 11 x.2] s ∧ s.low = low ∧ yT Hn s) (Q := fun (y6 : (Sl Int)) j s => j = .exit 0 ∧ Dc [(5, .v (Sl.lv y6))] s ∧ s.low = low ∧ yT Hn s) l8 ?_ ⟨r, hl, hf⟩ ?_
 ·rintro ⟨x4, x5⟩ s out ⟨r, hl, hf⟩ k2
  dsimp only at r
  simp only [Bi] at k2
  refine Ra hl hf ?_
  rintro g9 s r hl hf
  refine FI r.2.2.2.2.1 k2 (fun c10 k2 => ?_) fun c10 k2 => ?_
  ·refine ye <| Ra hl hf ?_
   rintro g11 s r hl hf
   obtain ⟨v12, h13, k3⟩ := yK k2
   refine Ra hl hf ?_
   rintro g14 s r hl hf
   refine Qy r.2.2.2.2.2.1 k3 (fun c15 k3 => ?_) fun c15 k3 => ?_
   ·refine Ra hl hf ?_
    rintro g16 s r hl hf
    obtain rfl := oK k3
    exact ⟨rfl, r, hl, hf⟩
   obtain ⟨v17, h18, k4⟩ := yK k3
   have q20 := Eb (sz := 1) (x := x4) (y := (Sl.cold [x5] : Sl Int)) rfl rfl h18
   refine Ra hl hf ?_
   rintro g19 s r hl hf
   refine Ra hl hf ?_
   rintro g21 s r hl hf
   obtain rfl := oK k4
   exact ⟨rfl, r, hl, hf⟩
  obtain rfl := oK k2
  exact ⟨by decide, ⟨rfl, ⟨r.2.1, trivial⟩, hl, hf⟩⟩
 intro j s hq
 obtain ⟨y6, rfl⟩ : ∃ x, x = o7 := ⟨_, rfl⟩
 try dsimp only at k1 hq
 obtain ⟨rfl, r, hl, hf⟩ := hq
 refine Ra hl hf ?_
 rintro g22 s r hl hf
 cases oK k1
 exact ⟨Or.inr rfl, hl, AQ (cQ r.1)⟩
def TI := fun a0 a1 => Cq.mk (@FB a0 a1)
theorem QL {a0 : AB} {a1 : (Sl Int)} {a2 : Int} {r : (Sl AD)} (k0 : BV a0 a1 a2 = some r) : Fin zL 31 [yA.enc a0, yA.enc a1, .int a2] (yA.enc r) := by
 unfold BV at k0; replace k0 := kq k0
 refine yR D9 Rl ?_
 rintro low s r hl hf
 refine Ra hl hf ?_
 rintro g1 s r hl hf
 refine Ra hl hf ?_
 rintro g2 s r hl hf
 refine Ra hl hf ?_
 rintro g3 s r hl hf
 refine ye ?_
 obtain ⟨o7, l8, k1⟩ := yK k0
 refine A8 (f := BR a0 a1 a2) (E := fun (x : (Sl AD) × Int) s => Dc [I_ 2 a2, C_ 3 g1 a0, (7, .v (Sl.lv x.1)), E_ 12 a1, I_ 13 a1.len, I_ 14 x.2] s ∧ s.low = low ∧ yT D9 s) (Q := fun (y6 : (Sl AD)) j s => j = .exit 0 ∧ Dc [C_ 3 g1 a0, (7, .v (Sl.lv y6))] s ∧ s.low = low ∧ yT D9 s) l8 ?_ ⟨r, hl, hf⟩ ?_
 ·rintro ⟨x4, x5⟩ s out ⟨r, hl, hf⟩ k2
  dsimp only at r
  simp only [BR] at k2
  refine Ra hl hf ?_
  rintro g9 s r hl hf
  refine FI r.2.2.2.2.2.2.1 k2 (fun c10 k2 => ?_) fun c10 k2 => ?_
  ·refine ye ?_
   obtain ⟨v11, h12, k3⟩ := yK k2
   refine Ra hl hf ?_
   rintro g13 s r hl hf
   obtain ⟨v14, h15, k4⟩ := yK k3
   obtain ⟨v16, h17, k5⟩ := yK k4
   have q19 := @cM
   have q20 := jg (sz := 3) rfl h17
   refine Ra hl hf ?_
   rintro g18 s r hl hf
   refine ye ?_
   obtain ⟨o24, l25, k6⟩ := yK k5
   refine A8 (f := B2 v11 v16) (E := fun (x : (Sl AD) × Int) s => Dc [I_ 2 a2, C_ 3 g1 a0, (7, .v (Sl.lv x.1)), I_ 9 v11, E_ 12 a1, I_ 13 a1.len, I_ 14 x5, E_ 35 v16, I_ 36 v16.len, I_ 37 x.2] s ∧ s.low = low ∧ yT D9 s) (Q := fun (y23 : (Sl AD)) j s => j = .exit 2 ∧ Dc [I_ 2 a2, C_ 3 g1 a0, (7, .v (Sl.lv y23)), E_ 12 a1, I_ 13 a1.len, I_ 14 x5] s ∧ s.low = low ∧ yT D9 s) l25 ?_ ⟨r, hl, hf⟩ ?_
   ·rintro ⟨x21, x22⟩ s out ⟨r, hl, hf⟩ k7
    dsimp only at r
    simp only [B2] at k7
    refine Ra hl hf ?_
    rintro g26 s r hl hf
    refine FI r.2.2.2.2.2.2.2.2.2.2.1 k7 (fun c27 k7 => ?_) fun c27 k7 => ?_
    ·refine ye ?_
     obtain ⟨v28, h29, k8⟩ := yK k7
     refine Ra hl hf ?_
     rintro g30 s r hl hf
     obtain ⟨v31, h32, k9⟩ := yK k8
     have q34 := @E7
     have q35 := Eb (sz := 4) (x := x21) (y := (Sl.cold [(AD.mk (AG.mk v11 x22) v28.Many 0)] : Sl AD)) rfl rfl h32
     refine Ra hl hf ?_
     rintro g33 s r hl hf
     refine Ra hl hf ?_
     rintro g36 s r hl hf
     obtain rfl := oK k9
     exact ⟨rfl, r, hl, hf⟩
    obtain rfl := oK k7
    exact ⟨by decide, ⟨rfl, ⟨r.1, r.2.1, r.2.2.1, r.2.2.2.2.1, r.2.2.2.2.2.1, r.2.2.2.2.2.2.1, trivial⟩, hl, hf⟩⟩
   intro j s hq
   obtain ⟨y23, rfl⟩ : ∃ x, x = o24 := ⟨_, rfl⟩
   try dsimp only at k6 hq
   obtain ⟨rfl, r, hl, hf⟩ := hq
   refine Ra hl hf ?_
   rintro g37 s r hl hf
   obtain rfl := oK k6
   exact ⟨rfl, r, hl, hf⟩
  obtain rfl := oK k2
  exact ⟨by decide, ⟨rfl, ⟨r.2.1, r.2.2.1, trivial⟩, hl, hf⟩⟩
 intro j s hq
 obtain ⟨y6, rfl⟩ : ∃ x, x = o7 := ⟨_, rfl⟩
 try dsimp only at k1 hq
 obtain ⟨rfl, r, hl, hf⟩ := hq
 refine Ra hl hf ?_
 rintro g38 s r hl hf
 cases oK k1
 exact ⟨Or.inr rfl, hl, AQ (cQ r.1)⟩
def FA := fun a0 a1 a2 => Cq.mk (@QL a0 a1 a2)
end Go.Lf
