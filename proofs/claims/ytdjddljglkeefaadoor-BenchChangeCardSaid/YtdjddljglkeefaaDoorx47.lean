/- A part of the proof. -/
import Derived.Test.YtdjddljglkeefaaDoorx20
import Derived.Test.YtdjddljglkeefaaDoorx22
set_option linter.all false
set_option maxHeartbeats 9999999
namespace Go.Lf
open Go
theorem Jo (a0 : Int) (a1 : Int) (a2 : Int) : Fin zL 57 [.int a0, .int a1, .int a2] (.bool (Ah a0 a1 a2)) := by
 refine zU YY YS ?_
 rintro low s r hl hf
 refine Ra hl hf ?_
 rintro g1 s r hl hf
 refine Rx (fun g4 => [B_ 6 ((decide (a1 ≤ a0)) && (decide (a0 ≤ a2)))]) hl hf ?_
 rintro g4 s r hl hf
 exact ⟨Or.inr rfl, hl, AI (AK r.1)⟩
def EH := fun a0 a1 a2 => (Jo a0 a1 a2).call
theorem XO (a0 : Ew) (a1 : Int) (a2 : Int) : Fin zL 58 [zI.enc a0, .int a1, .int a2] (.bool (Aw a0 a1 a2)) := by
 refine zU ZD Y1 ?_
 rintro low s r hl hf
 refine Ra hl hf ?_
 rintro g1 s r hl hf
 refine Rx (fun g6 => [B_ 6 ((decide (0 ≤ a0.Low)) && ((decide (a0.Low ≤ a0.High)) && ((decide (a0.High ≤ a1)) && (decide ((W (a0.High - a0.Low)) ≤ a2)))))]) hl hf ?_
 rintro g6 s r hl hf
 exact ⟨Or.inr rfl, hl, AI (AK r.1)⟩
def YJ := fun a0 a1 a2 => (XO a0 a1 a2).call
theorem Yj (a0 : VoiceBook) (a1 : Int) : Fin zL 76 [zI.enc a0, .int a1] (.bool (Eg a0 a1)) := by
 refine zU bP dP ?_
 rintro low s r hl hf
 have q3 := @EH
 refine Ra hl hf ?_
 rintro g1 s r hl hf
 refine Ra hl hf ?_
 rintro g2 s r hl hf
 exact ⟨Or.inr rfl, hl, AI (AK r.1)⟩
def Rr := fun a0 a1 => (Yj a0 a1).call
theorem Wt (a0 : VoiceBook) (a1 : Int) : Fin zL 77 [zI.enc a0, .int a1] (.bool (Dq a0 a1)) := by
 refine zU Y8 Yq ?_
 rintro low s r hl hf
 have q3 := @EH
 refine Ra hl hf ?_
 rintro g1 s r hl hf
 refine Ra hl hf ?_
 rintro g2 s r hl hf
 exact ⟨Or.inr rfl, hl, AI (AK r.1)⟩
def Px := fun a0 a1 => (Wt a0 a1).call
theorem WE (a0 : Int) : Fin zL 78 [.int a0] (.bool (EX a0)) := by
 refine zU Ye Yb ?_
 rintro low s r hl hf
 have q3 := @EH
 refine Ra hl hf ?_
 rintro g1 s r hl hf
 refine Ra hl hf ?_
 rintro g2 s r hl hf
 exact ⟨Or.inr rfl, hl, AI (AK r.1)⟩
def PZ := fun a0 => (WE a0).call
theorem Ur (a0 : VoiceBook) (a1 : AM) : Fin zL 59 [zI.enc a0, zI.enc a1] (.bool (HF a0 a1)) := by
 refine zU WV Wv ?_
 rintro low s r hl hf
 have q7 := @Rr
 have q8 := @PZ
 have q9 := @Px
 have q10 := @EH
 refine Ra hl hf ?_
 rintro g1 s r hl hf
 refine Rx (fun g6 => [B_ 4 ((Eg a0 a1.Boy) && ((Dq a0 a1.Week) && ((EX a1.Note) && (Ah a1.Sang 0 1))))]) hl hf ?_
 rintro g6 s r hl hf
 exact ⟨Or.inr rfl, hl, AI (AK r.1)⟩
def Vj := fun a0 a1 => (Ur a0 a1).call
theorem ZE {a0 : VoiceBook} {r : Int} (k0 : Ee a0 = some r) : Fin zL 34 [zI.enc a0] (.int r) := by
 unfold Ee at k0; replace k0 := kq k0
 refine zU Gz cr ?_
 rintro low s r hl hf
 have q49 := @YJ
 have q50 := @Vj
 have q51 := @EH
 refine Ra hl hf ?_
 rintro g1 s r hl hf
 refine Rx (fun g5 => [B_ 3 ((Ah a0.Boys.len 1 4) && ((Ah a0.Weeks 1 6) && (decide (a0.Trials.len ≤ 6))))]) hl hf ?_
 rintro g5 s r hl hf
 refine Ra hl hf ?_
 rintro g6 s r hl hf
 refine blk ?_
 obtain ⟨o10, l11, k1⟩ := bnk k0
 refine Ax (f := Eq a0) (E := fun (x : Bool × Int) s => B6 [C_ 1 g1 a0, B_ 3 x.1, E_ 24 a0.Boys, I_ 25 a0.Boys.len, I_ 26 x.2] s ∧ s.low = low ∧ NoB Gz s) (Q := fun (y9 : Bool) j s => j = .exit 0 ∧ B6 [C_ 1 g1 a0, B_ 3 y9] s ∧ s.low = low ∧ NoB Gz s) l11 ?_ ⟨r, hl, hf⟩ ?_
 ·rintro ⟨x7, x8⟩ s out ⟨r, hl, hf⟩ k2
  dsimp only at r
  simp only [Eq] at k2
  refine Ra hl hf ?_
  rintro g12 s r hl hf
  refine DW r.2.2.2.2.2.1 k2 (fun c13 k2 => ?_) fun c13 k2 => ?_
  ·refine blk ?_
   obtain ⟨v14, h15, k3⟩ := bnk k2
   refine Ra hl hf ?_
   rintro g16 s r hl hf
   refine Rx (fun g20 => [B_ 3 (x7 && ((Aw v14.Low 40 2) && (Aw v14.High 40 2)))]) hl hf ?_
   rintro g20 s r hl hf
   refine Rx (fun g24 => [B_ 3 ((x7 && ((Aw v14.Low 40 2) && (Aw v14.High 40 2))) && ((Aw v14.Gain 2 1) && (Ah v14.Loss 0 2)))]) hl hf ?_
   rintro g24 s r hl hf
   refine Rx (fun g28 => [B_ 3 (((x7 && ((Aw v14.Low 40 2) && (Aw v14.High 40 2))) && ((Aw v14.Gain 2 1) && (Ah v14.Loss 0 2))) && ((Aw v14.Turn 6 2) && (Aw v14.Break 9 3)))]) hl hf ?_
   rintro g28 s r hl hf
   refine Ra hl hf ?_
   rintro g29 s r hl hf
   obtain rfl := oK k3
   exact ⟨rfl, r, hl, hf⟩
  obtain rfl := oK k2
  exact ⟨by decide, ⟨rfl, ⟨r.1, r.2.1, trivial⟩, hl, hf⟩⟩
 intro j s hq
 obtain ⟨y9, rfl⟩ : ∃ x, x = o10 := ⟨_, rfl⟩
 try dsimp only at k1 hq
 obtain ⟨rfl, r, hl, hf⟩ := hq
 refine Ra hl hf ?_
 rintro g30 s r hl hf
 refine blk ?_
 obtain ⟨o34, l35, k4⟩ := bnk k1
 refine Ax (f := E4 a0) (E := fun (x : Bool × Int) s => B6 [C_ 1 g1 a0, B_ 3 x.1, E_ 65 a0.Trials, I_ 66 a0.Trials.len, I_ 67 x.2] s ∧ s.low = low ∧ NoB Gz s) (Q := fun (y33 : Bool) j s => j = .exit 2 ∧ B6 [C_ 1 g1 a0, B_ 3 y33] s ∧ s.low = low ∧ NoB Gz s) l35 ?_ ⟨r, hl, hf⟩ ?_
 ·rintro ⟨x31, x32⟩ s out ⟨r, hl, hf⟩ k5
  dsimp only at r
  simp only [E4] at k5
  refine Ra hl hf ?_
  rintro g36 s r hl hf
  refine DW r.2.2.2.2.2.1 k5 (fun c37 k5 => ?_) fun c37 k5 => ?_
  ·refine blk ?_
   obtain ⟨v38, h39, k6⟩ := bnk k5
   refine Ra hl hf ?_
   rintro g40 s r hl hf
   refine Rx (fun g43 => [B_ 3 (x31 && (HF a0 v38))]) hl hf ?_
   rintro g43 s r hl hf
   refine Ra hl hf ?_
   rintro g44 s r hl hf
   obtain rfl := oK k6
   exact ⟨rfl, r, hl, hf⟩
  obtain rfl := oK k5
  exact ⟨by decide, ⟨rfl, ⟨r.1, r.2.1, trivial⟩, hl, hf⟩⟩
 intro j s hq
 obtain ⟨y33, rfl⟩ : ∃ x, x = o34 := ⟨_, rfl⟩
 try dsimp only at k4 hq
 obtain ⟨rfl, r, hl, hf⟩ := hq
 refine Ra hl hf ?_
 rintro g45 s r hl hf
 refine Kw r.1 k4 (fun c46 k4 => ?_) fun c46 k4 => ?_
 ·refine Ra hl hf ?_
  rintro g47 s r hl hf
  cases oK k4
  exact ⟨Or.inr rfl, hl, AI (AK r.1)⟩
 refine Ra hl hf ?_
 rintro g48 s r hl hf
 cases oK k4
 exact ⟨Or.inr rfl, hl, AI (AK r.1)⟩
def I8 := fun a0 => Cq.mk (@ZE a0)
theorem XC (a0 : Int) (a1 : Int) (a2 : Int) : Fin zL 51 [.int a0, .int a1, .int a2] (.bool (AQ a0 a1 a2)) := by
 refine zU Yc Y2 ?_
 rintro low s r hl hf
 refine Ra hl hf ?_
 rintro g1 s r hl hf
 refine Rx (fun g4 => [B_ 6 ((decide (a1 ≤ a0)) && (decide (a0 ≤ a2)))]) hl hf ?_
 rintro g4 s r hl hf
 exact ⟨Or.inr rfl, hl, AI (AK r.1)⟩
def Kt := fun a0 a1 a2 => (XC a0 a1 a2).call
theorem YE {a0 : BenchBook} {r : Int} (k0 : Hn a0 = some r) : Fin zL 33 [zI.enc a0] (.int r) := by
 unfold Hn at k0; replace k0 := kq k0
 refine zU G0 bO ?_
 rintro low s r hl hf
 have q46 := @Kt
 have q47 := @I8
 refine Ra hl hf ?_
 rintro g1 s r hl hf
 obtain ⟨o6, q, k1⟩ := bnk k0
 refine Rq (fun g8 => [B_ 3 o6]) hl hf q ?_
 rintro g8 s r hl hf
 refine Ra hl hf ?_
 rintro g9 s r hl hf
 refine blk ?_
 obtain ⟨o13, l14, k2⟩ := bnk k1
 refine Ax (f := Et a0) (E := fun (x : Bool × Int) s => B6 [C_ 1 g1 a0, B_ 3 x.1, E_ 24 a0.Pieces, I_ 25 a0.Pieces.len, I_ 26 x.2] s ∧ s.low = low ∧ NoB G0 s) (Q := fun (y12 : Bool) j s => j = .exit 0 ∧ B6 [C_ 1 g1 a0, B_ 3 y12] s ∧ s.low = low ∧ NoB G0 s) l14 ?_ ⟨r, hl, hf⟩ ?_
 ·rintro ⟨x10, x11⟩ s out ⟨r, hl, hf⟩ k3
  dsimp only at r
  simp only [Et] at k3
  refine Ra hl hf ?_
  rintro g15 s r hl hf
  refine DW r.2.2.2.2.2.1 k3 (fun c16 k3 => ?_) fun c16 k3 => ?_
  ·refine blk ?_
   obtain ⟨v17, h18, k4⟩ := bnk k3
   refine Ra hl hf ?_
   rintro g19 s r hl hf
   refine Rx (fun g23 => [B_ 3 (x10 && ((AQ v17.Week 0 (W (a0.Voice.Weeks - 1))) && (AQ v17.Parts.len 1 3)))]) hl hf ?_
   rintro g23 s r hl hf
   refine Ra hl hf ?_
   rintro g24 s r hl hf
   refine blk ?_
   obtain ⟨o28, l29, k5⟩ := bnk k4
   refine Ax (f := Ey v17) (E := fun (x : Bool × Int) s => B6 [C_ 1 g1 a0, B_ 3 x.1, E_ 24 a0.Pieces, I_ 25 a0.Pieces.len, I_ 26 x11, E_ 47 v17.Parts, I_ 48 v17.Parts.len, I_ 49 x.2] s ∧ s.low = low ∧ NoB G0 s) (Q := fun (y27 : Bool) j s => j = .exit 2 ∧ B6 [C_ 1 g1 a0, B_ 3 y27, E_ 24 a0.Pieces, I_ 25 a0.Pieces.len, I_ 26 x11] s ∧ s.low = low ∧ NoB G0 s) l29 ?_ ⟨r, hl, hf⟩ ?_
   ·rintro ⟨x25, x26⟩ s out ⟨r, hl, hf⟩ k6
    dsimp only at r
    simp only [Ey] at k6
    refine Ra hl hf ?_
    rintro g30 s r hl hf
    refine DW r.2.2.2.2.2.2.2.2.1 k6 (fun c31 k6 => ?_) fun c31 k6 => ?_
    ·refine blk ?_
     obtain ⟨v32, h33, k7⟩ := bnk k6
     refine Ra hl hf ?_
     rintro g34 s r hl hf
     refine Rx (fun g39 => [B_ 3 (x25 && ((AQ v32.Notes.Low 0 v32.Notes.High) && ((decide (v32.Notes.High ≤ 40)) && (AQ v32.Many 1 3))))]) hl hf ?_
     rintro g39 s r hl hf
     refine Ra hl hf ?_
     rintro g40 s r hl hf
     obtain rfl := oK k7
     exact ⟨rfl, r, hl, hf⟩
    obtain rfl := oK k6
    exact ⟨by decide, ⟨rfl, ⟨r.1, r.2.1, r.2.2.1, r.2.2.2.1, r.2.2.2.2.1, trivial⟩, hl, hf⟩⟩
   intro j s hq
   obtain ⟨y27, rfl⟩ : ∃ x, x = o28 := ⟨_, rfl⟩
   try dsimp only at k5 hq
   obtain ⟨rfl, r, hl, hf⟩ := hq
   refine Ra hl hf ?_
   rintro g41 s r hl hf
   obtain rfl := oK k5
   exact ⟨rfl, r, hl, hf⟩
  obtain rfl := oK k3
  exact ⟨by decide, ⟨rfl, ⟨r.1, r.2.1, trivial⟩, hl, hf⟩⟩
 intro j s hq
 obtain ⟨y12, rfl⟩ : ∃ x, x = o13 := ⟨_, rfl⟩
 try dsimp only at k2 hq
 obtain ⟨rfl, r, hl, hf⟩ := hq
 refine Ra hl hf ?_
 rintro g42 s r hl hf
 refine Kw r.1 k2 (fun c43 k2 => ?_) fun c43 k2 => ?_
 ·refine Ra hl hf ?_
  rintro g44 s r hl hf
  cases oK k2
  exact ⟨Or.inr rfl, hl, AI (AK r.1)⟩
 refine Ra hl hf ?_
 rintro g45 s r hl hf
 cases oK k2
 exact ⟨Or.inr rfl, hl, AI (AK r.1)⟩
def RN := fun a0 => Cq.mk (@YE a0)
theorem bz (a0 : Int) (a1 : Int) (a2 : Int) : Fin zL 19 [.int a0, .int a1, .int a2] (.bool (AY a0 a1 a2)) := by
 refine zU eJ gY ?_
 rintro low s r hl hf
 refine Ra hl hf ?_
 rintro g1 s r hl hf
 refine Rx (fun g4 => [B_ 6 ((decide (a1 ≤ a0)) && (decide (a0 ≤ a2)))]) hl hf ?_
 rintro g4 s r hl hf
 exact ⟨Or.inr rfl, hl, AI (AK r.1)⟩
def Ib := fun a0 a1 a2 => (bz a0 a1 a2).call
theorem ax (a0 : Ew) (a1 : Int) (a2 : Int) (a3 : Int) : Fin zL 35 [zI.enc a0, .int a1, .int a2, .int a3] (.bool (JF a0 a1 a2 a3)) := by
 refine zU fc eK ?_
 rintro low s r hl hf
 refine Ra hl hf ?_
 rintro g1 s r hl hf
 refine Rx (fun g6 => [B_ 8 ((decide (a1 ≤ a0.Low)) && ((decide (a0.Low ≤ a0.High)) && ((decide (a0.High ≤ a2)) && (decide ((W (a0.High - a0.Low)) ≤ a3)))))]) hl hf ?_
 rintro g6 s r hl hf
 exact ⟨Or.inr rfl, hl, AI (AK r.1)⟩
def iL := fun a0 a1 a2 a3 => (ax a0 a1 a2 a3).call
theorem ZK {a0 : BenchBook} {r : Bool} (k0 : Ec a0 = some r) : Fin zL 8 [zI.enc a0] (.bool r) := by
 unfold Ec at k0; replace k0 := kq k0
 refine zU HN cN ?_
 rintro low s r hl hf
 have q50 := @RN
 have q51 := @iL
 have q52 := @Ib
 have q53 := @I8
 refine Ra hl hf ?_
 rintro g1 s r hl hf
 obtain ⟨ze, q, k1⟩ := bnk k0
 refine Rq (fun g14 => [B_ 3 ze]) hl hf q ?_
 rintro g14 s r hl hf
 refine Ra hl hf ?_
 rintro g15 s r hl hf
 refine blk ?_
 obtain ⟨o19, l20, k2⟩ := bnk k1
 refine Ax (f := EC a0) (E := fun (x : Bool × Int) s => B6 [C_ 1 g1 a0, B_ 3 x.1, I_ 4 x.2] s ∧ s.low = low ∧ NoB HN s) (Q := fun (y18 : Bool) j s => j = .exit 0 ∧ B6 [C_ 1 g1 a0, B_ 3 y18] s ∧ s.low = low ∧ NoB HN s) l20 ?_ ⟨r, hl, hf⟩ ?_
 ·rintro ⟨x16, x17⟩ s out ⟨r, hl, hf⟩ k3
  dsimp only at r
  simp only [EC] at k3
  refine Rx (fun g23 => [B_ 54 (x16 && (decide (x17 < a0.Pieces.len)))]) hl hf ?_
  rintro g23 s r hl hf
  refine DW r.2.2.2.1 k3 (fun c24 k3 => ?_) fun c24 k3 => ?_
  ·refine blk ?_
   obtain ⟨v25, h26, k4⟩ := bnk k3
   refine Ra hl hf ?_
   rintro g27 s r hl hf
   refine Rx (fun g30 => [B_ 3 ((AY v25.Week 0 (W (a0.Voice.Weeks - 1))) && (AY v25.Parts.len 1 3))]) hl hf ?_
   rintro g30 s r hl hf
   refine Ra hl hf ?_
   rintro g31 s r hl hf
   refine blk ?_
   obtain ⟨o35, l36, k5⟩ := bnk k4
   refine Ax (f := D8 v25) (E := fun (x : Bool × Int) s => B6 [C_ 1 g1 a0, B_ 3 x.1, I_ 4 x17, C_ 5 (g27 + 1 + 1 + 1 + 1 + 1) v25, I_ 6 x.2] s ∧ s.low = low ∧ NoB HN s) (Q := fun (y34 : Bool) j s => j = .exit 2 ∧ B6 [C_ 1 g1 a0, B_ 3 y34, I_ 4 x17, C_ 5 (g27 + 1 + 1 + 1 + 1 + 1) v25] s ∧ s.low = low ∧ NoB HN s) l36 ?_ ⟨r, hl, hf⟩ ?_
   ·rintro ⟨x32, x33⟩ s out ⟨r, hl, hf⟩ k6
    dsimp only at r
    simp only [D8] at k6
    refine Rx (fun g39 => [B_ 82 (x32 && (decide (x33 < v25.Parts.len)))]) hl hf ?_
    rintro g39 s r hl hf
    refine DW r.2.2.2.2.2.1 k6 (fun c40 k6 => ?_) fun c40 k6 => ?_
    ·refine blk ?_
     obtain ⟨o44, q, k7⟩ := bnk k6
     refine Rq (fun g46 => [B_ 3 o44]) hl hf q ?_
     rintro g46 s r hl hf
     refine Ra hl hf ?_
     rintro g47 s r hl hf
     obtain rfl := oK k7
     exact ⟨rfl, r, hl, hf⟩
    obtain rfl := oK k6
    exact ⟨by decide, ⟨rfl, ⟨r.1, r.2.1, r.2.2.1, r.2.2.2.1, trivial⟩, hl, hf⟩⟩
   intro j s hq
   obtain ⟨y34, rfl⟩ : ∃ x, x = o35 := ⟨_, rfl⟩
   try dsimp only at k5 hq
   obtain ⟨rfl, r, hl, hf⟩ := hq
   refine Ra hl hf ?_
   rintro g48 s r hl hf
   obtain rfl := oK k5
   exact ⟨rfl, r, hl, hf⟩
  obtain rfl := oK k3
  exact ⟨by decide, ⟨rfl, ⟨r.1, r.2.1, trivial⟩, hl, hf⟩⟩
 intro j s hq
 obtain ⟨y18, rfl⟩ : ∃ x, x = o19 := ⟨_, rfl⟩
 try dsimp only at k2 hq
 obtain ⟨rfl, r, hl, hf⟩ := hq
 refine Ra hl hf ?_
 rintro g49 s r hl hf
 cases oK k2
 exact ⟨Or.inr rfl, hl, AI (AK r.1)⟩
def HE := fun a0 => Cq.mk (@ZK a0)
theorem bF {a0 : Int} {a1 : Int} {r : Int} (k0 : E3 a0 a1 = some r) : Fin zL 11 [.int a0, .int a1] (.int r) := by
 unfold E3 at k0; replace k0 := kq k0
 refine zU db eQ ?_
 rintro low s r hl hf
 refine Ra hl hf ?_
 rintro g1 s r hl hf
 refine Ra hl hf ?_
 rintro g2 s r hl hf
 refine DW r.2.2.1 k0 (fun c3 k0 => ?_) fun c3 k0 => ?_
 ·refine Ra hl hf ?_
  rintro g4 s r hl hf
  cases oK k0
  exact ⟨Or.inr rfl, hl, AI (AK r.1)⟩
 obtain ⟨v5, h6, k1⟩ := bnk k0
 have q8 := Fp h6
 refine Ra hl hf ?_
 rintro g7 s r hl hf
 refine Ra hl hf ?_
 rintro g9 s r hl hf
 refine DW r.2.2.1 k1 (fun c10 k1 => ?_) fun c10 k1 => ?_
 ·refine Ra hl hf ?_
  rintro g11 s r hl hf
  refine Ra hl hf ?_
  rintro g12 s r hl hf
  cases oK k1
  exact ⟨Or.inr rfl, hl, AI (AK r.1)⟩
 refine Ra hl hf ?_
 rintro g13 s r hl hf
 cases oK k1
 exact ⟨Or.inr rfl, hl, AI (AK r.1)⟩
def IM := fun a0 a1 => Cq.mk (@bF a0 a1)
theorem f9 {a0 : Int} {a1 : Int} {r : Bool} (k0 : Ia a0 a1 = some r) : Fin zL 43 [.int a0, .int a1] (.bool r) := by
 unfold Ia at k0; replace k0 := kq k0
 refine zU j5 jp ?_
 rintro low s r hl hf
 refine Ra hl hf ?_
 rintro g1 s r hl hf
 obtain ⟨o8, q9, k1⟩ := bnk k0
 refine lb [B_ 4 o8] hl hf ?_ ?_
 ·by_cases c2 : (decide (0 ≤ a1)) = true
  ·rw [if_pos c2] at q9
   by_cases c3 : (decide (a1 < 62)) = true
   ·rw [if_pos c3] at q9
    obtain ⟨v4, h5, q12⟩ := bnd q9
    obtain ⟨v6, h7, q13⟩ := bnd q12
    have e1 := oI q13
    simp only [rs, hl, nob hf, r, c2, c3, (Fp h5), (Fp h7), ← e1, reduceCtorEq, Nat.reduceEqDiff, Nat.reduceAdd]
   rw [if_neg c3] at q9
   have c3 := eq_false_of_ne_true c3
   have e1 := oI q9
   simp only [rs, hl, nob hf, r, c2, c3, ← e1, reduceCtorEq, Nat.reduceEqDiff, Nat.reduceAdd]
  rw [if_neg c2] at q9
  have c2 := eq_false_of_ne_true c2
  have e1 := oI q9
  simp only [rs, hl, nob hf, r, c2, ← e1, reduceCtorEq, Nat.reduceEqDiff, Nat.reduceAdd]
 rintro s r hl hf
 cases oK k1
 exact ⟨Or.inr rfl, hl, AI (AK r.1)⟩
def XE := fun a0 a1 => Cq.mk (@f9 a0 a1)
theorem cu {a0 : Int} {a1 : Int} {r : (Sl Int)} (k0 : FS a0 a1 = some r) : Fin zL 10 [.int a0, .int a1] (zI.enc r) := by
 unfold FS at k0; replace k0 := kq k0
 refine zU Nb iQ ?_
 rintro low s r hl hf
 have q22 := @XE
 refine Ra hl hf ?_
 rintro g1 s r hl hf
 refine Ra hl hf ?_
 rintro g2 s r hl hf
 refine Ra hl hf ?_
 rintro g3 s r hl hf
 refine blk ?_
 obtain ⟨o7, l8, k1⟩ := bnk k0
 refine Ax (f := FU a0 a1) (E := fun (x : (Sl Int) × Int) s => B6 [I_ 0 a0, I_ 1 a1, (5, .v (Sl.lv x.1)), I_ 6 x.2] s ∧ s.low = low ∧ NoB Nb s) (Q := fun (y6 : (Sl Int)) j s => j = .exit 0 ∧ B6 [(5, .v (Sl.lv y6))] s ∧ s.low = low ∧ NoB Nb s) l8 ?_ ⟨r, hl, hf⟩ ?_
 ·rintro ⟨x4, x5⟩ s out ⟨r, hl, hf⟩ k2
  dsimp only at r
  simp only [FU] at k2
  refine Ra hl hf ?_
  rintro g9 s r hl hf
  refine DW r.2.2.2.2.1 k2 (fun c10 k2 => ?_) fun c10 k2 => ?_
  ·refine blk ?_
   obtain ⟨v11, h12, k3⟩ := bnk k2
   refine Ra hl hf ?_
   rintro g13 s r hl hf
   refine DW r.2.2.2.2.1 k3 (fun c14 k3 => ?_) fun c14 k3 => ?_
   ·obtain ⟨v15, h16, k4⟩ := bnk k3
    have q18 := E5 (sz := 1) (x := x4) (y := (Sl.cold [x5] : Sl Int)) rfl rfl h16
    refine Ra hl hf ?_
    rintro g17 s r hl hf
    refine Ra hl hf ?_
    rintro g19 s r hl hf
    obtain rfl := oK k4
    exact ⟨rfl, r, hl, hf⟩
   refine Ra hl hf ?_
   rintro g20 s r hl hf
   obtain rfl := oK k3
   exact ⟨rfl, r, hl, hf⟩
  obtain rfl := oK k2
  exact ⟨by decide, ⟨rfl, ⟨r.2.2.1, trivial⟩, hl, hf⟩⟩
 intro j s hq
 obtain ⟨y6, rfl⟩ : ∃ x, x = o7 := ⟨_, rfl⟩
 try dsimp only at k1 hq
 obtain ⟨rfl, r, hl, hf⟩ := hq
 refine Ra hl hf ?_
 rintro g21 s r hl hf
 cases oK k1
 exact ⟨Or.inr rfl, hl, AI (Ob r.1)⟩
def OQ := fun a0 a1 => Cq.mk (@cu a0 a1)
theorem U4 (a0 : BenchBook) (a1 : Int) : Fin zL 44 [zI.enc a0, .int a1] (.bool (Ap a0 a1)) := by
 refine zU XY Xp ?_
 rintro low s r hl hf
 have q3 := @Kt
 refine Ra hl hf ?_
 rintro g1 s r hl hf
 refine Ra hl hf ?_
 rintro g2 s r hl hf
 exact ⟨Or.inr rfl, hl, AI (AK r.1)⟩
def Ja := fun a0 a1 => (U4 a0 a1).call
theorem NT {low : List Fr} (a0 : AA) (a1 : Int) (a2 : (Sl Int)) {wja0 : Nat} {wta0 : Nat} {wga0 : Nat} (hwa0 : wja0 < low.length) : LL zL 70 [.agg (AA.lc a0 wja0 wta0 wga0), .d (.int a1), .d (zI.enc a2)] low (.fn 84 [] [.fptr (AA.lc a0 wja0 wta0 wga0) 0, .d (.fptr [.int a1] 0), .d (.fptr [zI.enc a2] 0)]) := by
 refine jH P2 P9 ?_
 rintro s r hl hf
 have q2 := @Ff
 refine Ra hl hf ?_
 rintro g1 s r hl hf
 refine Ra hl hf ?_
 rintro g3 s r hl hf
 exact ⟨Or.inr rfl, hl, rI (by simp only [eV, r, Fe, IY, Oa, hl]; simp only [xC, yN, t8, tc, Zo, fp, lR, lD, eG, aW, be, Rm, SA, Qq, Vf, mm, O6, aP, SX, Option.map_some, Option.map_none, AA.lc, fb (show Env.get 3 s.env = _ from r.1), fb (show Env.get 4 s.env = _ from r.2.1), fb (show Env.get 5 s.env = _ from r.2.2.1), tG hwa0])⟩
theorem WX {a0 : (Sl Int)} {a1 : Int} {r : Int} (k0 : IR a0 a1 = some r) : Fin zL 88 [zI.enc a0, .int a1] (.int r) := by
 unfold IR at k0; replace k0 := kq k0
 refine zU KZ PW ?_
 rintro low s r hl hf
 refine Ra hl hf ?_
 rintro g1 s r hl hf
 refine Ra hl hf ?_
 rintro g2 s r hl hf
 refine blk ?_
 obtain ⟨o5, l6, k1⟩ := bnk k0
 refine Ax (f := BN a0 a1) (E := fun (x : Int) s => B6 [E_ 0 a0, I_ 1 a1, I_ 7 a0.len, I_ 8 x] s ∧ s.low = low ∧ NoB KZ s) (Q := fun (o : ((Int) ⊕ (Unit))) j s => match o with | .inl w4 => j = .ret ∧ FnJ PW.1 low (.d (.int w4)) .ret s | .inr _ => j = .exit 0 ∧ B6 [] s ∧ s.low = low ∧ NoB KZ s) l6 ?_ ⟨r, hl, hf⟩ ?_
 ·rintro x3 s out ⟨r, hl, hf⟩ k2
  unfold BN at k2
  refine Ra hl hf ?_
  rintro g7 s r hl hf
  refine DW r.2.2.2.2.1 k2 (fun c8 k2 => ?_) fun c8 k2 => ?_
  ·refine blk <| Ra hl hf ?_
   rintro g9 s r hl hf
   obtain ⟨v10, h11, k3⟩ := bnk k2
   refine Ra hl hf ?_
   rintro g12 s r hl hf
   refine DW r.2.2.2.2.2.1 k3 (fun c13 k3 => ?_) fun c13 k3 => ?_
   ·refine Ra hl hf ?_
    rintro g14 s r hl hf
    obtain rfl := oK k3
    exact ⟨by decide, ⟨rfl, ⟨Or.inr rfl, hl, AI (AK r.1)⟩⟩⟩
   refine Ra hl hf ?_
   rintro g15 s r hl hf
   obtain rfl := oK k3
   exact ⟨rfl, r, hl, hf⟩
  obtain rfl := oK k2
  exact ⟨by decide, ⟨rfl, trivial, hl, hf⟩⟩
 intro j s hq
 rcases o5 with w4 | _
 ·try dsimp only at k1 hq
  obtain ⟨rfl, hq⟩ := hq
  cases oK k1
  exact hq
 try dsimp only at k1 hq
 obtain ⟨rfl, -, hl, hf⟩ := hq
 refine Ra hl hf ?_
 rintro g16 s r hl hf
 cases oK k1
 exact ⟨Or.inr rfl, hl, AI (AK r.1)⟩
def YO := fun a0 a1 => Cq.mk (@WX a0 a1)
theorem HK {a0 : (Sl Int)} {a1 : Int} {r : Bool} (k0 : CZ a0 a1 = some r) : Fin zL 75 [zI.enc a0, .int a1] (.bool r) := by
 unfold CZ at k0; replace k0 := kq k0
 refine zU TR TK ?_
 rintro low s r hl hf
 have q5 := @YO
 refine Ra hl hf ?_
 rintro g1 s r hl hf
 obtain ⟨v2, h3, k1⟩ := bnk k0
 refine Ra hl hf ?_
 rintro g4 s r hl hf
 cases oK k1
 exact ⟨Or.inr rfl, hl, AI (AK r.1)⟩
def Lc := fun a0 a1 => Cq.mk (@HK a0 a1)
theorem Yl {a0 : Int} {a1 : (Sl Int)} {r : Int} (k0 : GZ a0 a1 = some r) : Fin zL 71 [.int a0, zI.enc a1] (.int r) := by
 unfold GZ at k0; replace k0 := kq k0
 refine zU ND bh ?_
 rintro low s r hl hf
 refine Ra hl hf ?_
 rintro g1 s r hl hf
 refine Ra hl hf ?_
 rintro g2 s r hl hf
 refine blk ?_
 obtain ⟨o6, l7, k1⟩ := bnk k0
 refine Ax (f := Ep a1) (E := fun (x : Int × Int) s => B6 [I_ 0 x.1, E_ 7 a1, I_ 8 a1.len, I_ 9 x.2] s ∧ s.low = low ∧ NoB ND s) (Q := fun (y5 : Int) j s => j = .exit 0 ∧ B6 [I_ 0 y5] s ∧ s.low = low ∧ NoB ND s) l7 ?_ ⟨r, hl, hf⟩ ?_
 ·rintro ⟨x3, x4⟩ s out ⟨r, hl, hf⟩ k2
  dsimp only at r
  simp only [Ep] at k2
  refine Ra hl hf ?_
  rintro g8 s r hl hf
  refine DW r.2.2.2.2.1 k2 (fun c9 k2 => ?_) fun c9 k2 => ?_
  ·refine blk ?_
   obtain ⟨v10, h11, k3⟩ := bnk k2
   refine Ra hl hf ?_
   rintro g12 s r hl hf
   have q14 := @V3
   refine Ra hl hf ?_
   rintro g13 s r hl hf
   refine Ra hl hf ?_
   rintro g15 s r hl hf
   obtain rfl := oK k3
   exact ⟨rfl, r, hl, hf⟩
  obtain rfl := oK k2
  exact ⟨by decide, ⟨rfl, ⟨r.1, trivial⟩, hl, hf⟩⟩
 intro j s hq
 obtain ⟨y5, rfl⟩ : ∃ x, x = o6 := ⟨_, rfl⟩
 try dsimp only at k1 hq
 obtain ⟨rfl, r, hl, hf⟩ := hq
 refine Ra hl hf ?_
 rintro g16 s r hl hf
 cases oK k1
 exact ⟨Or.inr rfl, hl, AI (AK r.1)⟩
def ME := fun a0 a1 => Cq.mk (@Yl a0 a1)
theorem Qb {low : List Fr} {a0 : AA} {a1 : Int} {a2 : (Ar 5 Int)} {a3 : Int} {wja0 : Nat} {wta0 : Nat} {wga0 : Nat} (hwa0 : wja0 < low.length) {r : Int} (k0 : Im a0 a1 a2 a3 = some r) : LL zL 96 [.agg (AA.lc a0 wja0 wta0 wga0), .d (.int a1), .d (zI.enc a2), .d (.int a3)] low (.d (.int r)) := by
 unfold Im at k0; replace k0 := kq k0
 refine jH NL NM ?_
 rintro s r hl hf
 have q22 := @ME
 have q2 := @Ff
 refine Ra hl hf ?_
 rintro g1 s r hl hf
 obtain ⟨v3, h4, k1⟩ := bnk k0
 obtain ⟨v5, h6, k2⟩ := bnk k1
 have q8 := EG h4
 have q9 := D3 h4 rfl rfl
 refine Ra hl hf ?_
 rintro g7 s r hl hf
 obtain ⟨v10, h11, k3⟩ := bnk k2
 obtain ⟨v12, h13, k4⟩ := bnk k3
 obtain ⟨v14, h15, k5⟩ := bnk k4
 have q17 := @QH
 have q18 := EG h11
 have q19 := D3 h11 rfl rfl
 have q20 := EG h13
 have q21 := D3 h13 rfl rfl
 refine Ra hl hf ?_
 rintro g16 s r hl hf
 cases oK k5
 exact ⟨Or.inr rfl, hl, AI (AK r.1)⟩
theorem QW {low : List Fr} {a0 : AA} {a1 : Int} {a2 : (Ar 5 Int)} {a3 : Int} {a4 : Int} {wja0 : Nat} {wta0 : Nat} {wga0 : Nat} (hwa0 : wja0 < low.length) {r : Bool} (k0 : GN a0 a1 a2 a3 a4 = some r) : LL zL 92 [.agg (AA.lc a0 wja0 wta0 wga0), .d (.int a1), .d (zI.enc a2), .d (.int a3), .d (.int a4)] low (.d (.bool r)) := by
 unfold GN at k0; replace k0 := kq k0
 refine jH NJ NH ?_
 rintro s r hl hf
 have q23 := @EH
 have q2 := @Ff
 refine Ra hl hf ?_
 rintro g1 s r hl hf
 obtain ⟨ze, q13, k1⟩ := bnk k0
 refine lb [B_ 10 ze] hl hf ?_ ?_
 ·by_cases c3 : (decide (Bm.key a2 = Bm.key (⟨[(-1), (-1), (-1), (-1), (-1)], rfl⟩ : (Ar 5 Int)))) = true
  ·rw [if_pos c3] at q13
   have e1 := oI q13
   simp only [rs, ps, Be, G3, DI, JS, Jp, Bq, hl, nob hf, r, QN, c3, ← e1, reduceCtorEq, Nat.reduceEqDiff, Nat.reduceAdd]
  rw [if_neg c3] at q13
  have c3 := eq_false_of_ne_true c3
  obtain ⟨v4, h5, q20⟩ := bnd q13
  by_cases c6 : (decide (a3 < v4)) = true
  ·rw [if_pos c6] at q20
   obtain ⟨v7, h8, q21⟩ := bnd q20
   obtain ⟨v9, h10, q22⟩ := bnd q21
   have e1 := oI q22
   have f11 : ∀ (e : Env) (c : Nat), (om zL).call 96 [.agg (AA.lc a0 wja0 wta0 wga0), .d (.int a1), .d (zI.enc a2), .d (.int a3)] (low ++ [⟨e, none⟩]) c = some (.d (.int (v9)), low ++ [⟨e, none⟩], TL zL 96 [.agg (AA.lc a0 wja0 wta0 wga0), .d (.int a1), .d (zI.enc a2), .d (.int a3)] (low ++ [⟨e, none⟩]) c) := fun e c => LL.om (Qb (by first | omega | (simp only [List.length_append, List.length_cons, List.length_nil]; omega)) h10) c
   simp only [rs, ps, Be, G3, DI, JS, Jp, Bq, hl, nob hf, r, QN, c3, (EG h5), (D3 h5 rfl rfl), c6, (EG h8), (D3 h8 rfl rfl), f11, (Jo a4 v7 v9).call, ← e1, reduceCtorEq, Nat.reduceEqDiff, Nat.reduceAdd]
  rw [if_neg c6] at q20
  have c6 := eq_false_of_ne_true c6
  have e1 := oI q20
  simp only [rs, ps, Be, G3, DI, JS, Jp, Bq, hl, nob hf, r, QN, c3, (EG h5), (D3 h5 rfl rfl), c6, ← e1, reduceCtorEq, Nat.reduceEqDiff, Nat.reduceAdd]
 rintro s r hl hf
 cases oK k1
 exact ⟨Or.inr rfl, hl, AI (AK r.1)⟩
theorem OW {low : List Fr} {a0 : AA} {a1 : Int} {a2 : (Ar 5 Int)} {a3 : (Sl Int)} {wja0 : Nat} {wta0 : Nat} {wga0 : Nat} (hwa0 : wja0 < low.length) {r : Bool} (k0 : Cm a0 a1 a2 a3 = some r) : LL zL 85 [.agg (AA.lc a0 wja0 wta0 wga0), .d (.int a1), .d (zI.enc a2), .d (zI.enc a3)] low (.d (.bool r)) := by
 unfold Cm at k0; replace k0 := kq k0
 refine jH HJ Jz ?_
 rintro s r hl hf
 have q30 := @Lc
 have q2 := @Ff
 refine Ra hl hf ?_
 rintro g1 s r hl hf
 have q4 := @Qe
 refine Ra hl hf ?_
 rintro g3 s r hl hf
 refine blk ?_
 obtain ⟨o7, l8, k1⟩ := bnk k0
 refine Ax (f := Br a0 a1 a2 a3) (E := fun (x : Int) s => B6 [I_ 1 a1, E_ 3 a3, (4, .box g1 (AA.lc a0 wja0 wta0 wga0)), C_ 6 (g1 + 1) a2, E_ 13 a0.VoiceBook.Trials, I_ 14 a0.VoiceBook.Trials.len, I_ 15 x] s ∧ s.low = low ∧ NoB HJ s) (Q := fun (o : ((Bool) ⊕ (Unit))) j s => match o with | .inl w6 => j = .ret ∧ FnJ Jz.1 low (.d (.bool w6)) .ret s | .inr _ => j = .exit 0 ∧ B6 [(4, .box g1 (AA.lc a0 wja0 wta0 wga0)), C_ 6 (g1 + 1) a2] s ∧ s.low = low ∧ NoB HJ s) l8 ?_ ⟨r, hl, hf⟩ ?_
 ·rintro x5 s out ⟨r, hl, hf⟩ k2
  unfold Br at k2
  refine Ra hl hf ?_
  rintro g9 s r hl hf
  refine DW r.2.2.2.2.2.2.2.1 k2 (fun c10 k2 => ?_) fun c10 k2 => ?_
  ·refine blk ?_
   obtain ⟨v11, h12, k3⟩ := bnk k2
   refine Ra hl hf ?_
   rintro g13 s r hl hf
   obtain ⟨o21, q22, k4⟩ := bnk k3
   refine lb [I_ 1 a1, E_ 3 a3, (4, .box g1 (AA.lc a0 wja0 wta0 wga0)), C_ 6 (g1 + 1) a2, E_ 13 a0.VoiceBook.Trials, I_ 14 a0.VoiceBook.Trials.len, I_ 15 x5, B_ 43 o21] hl hf ?_ ?_
   ·by_cases c14 : (decide (v11.Boy = a1)) = true
    ·rw [if_pos c14] at q22
     obtain ⟨v15, h16, q27⟩ := bnd q22
     by_cases c17 : v15 = true
     ·rw [if_pos c17] at q27
      have e1 := oI q27
      simp only [rs, ps, Be, G3, DI, Bq, hl, nob hf, r, c14, (HK h16).call, c17, ← e1, reduceCtorEq, Nat.reduceEqDiff, Nat.reduceAdd]
     rw [if_neg c17] at q27
     have c17 := eq_false_of_ne_true c17
     obtain ⟨v18, h19, q28⟩ := bnd q27
     have e1 := oI q28
     have f20 : ∀ (e : Env) (c : Nat), (om zL).call 92 [.agg (AA.lc a0 wja0 wta0 wga0), .d (.int a1), .d (zI.enc a2), .d (.int v11.Week), .d (.int v11.Note)] (low ++ [⟨e, none⟩]) c = some (.d (.bool (v18)), low ++ [⟨e, none⟩], TL zL 92 [.agg (AA.lc a0 wja0 wta0 wga0), .d (.int a1), .d (zI.enc a2), .d (.int v11.Week), .d (.int v11.Note)] (low ++ [⟨e, none⟩]) c) := fun e c => LL.om (QW (by first | omega | (simp only [List.length_append, List.length_cons, List.length_nil]; omega)) h19) c
     simp only [rs, ps, Be, G3, DI, Bq, hl, nob hf, r, c14, (HK h16).call, c17, f20, ← e1, reduceCtorEq, Nat.reduceEqDiff, Nat.reduceAdd]
    rw [if_neg c14] at q22
    have c14 := eq_false_of_ne_true c14
    have e1 := oI q22
    simp only [rs, ps, Be, G3, DI, Bq, hl, nob hf, r, c14, ← e1, reduceCtorEq, Nat.reduceEqDiff, Nat.reduceAdd]
   rintro s r hl hf
   refine DW r.2.2.2.2.2.2.2.1 k4 (fun c24 k4 => ?_) fun c24 k4 => ?_
   ·refine Ra hl hf ?_
    rintro g25 s r hl hf
    obtain rfl := oK k4
    exact ⟨by decide, ⟨rfl, ⟨Or.inr rfl, hl, AI (AK r.1)⟩⟩⟩
   refine Ra hl hf ?_
   rintro g26 s r hl hf
   obtain rfl := oK k4
   exact ⟨rfl, r, hl, hf⟩
  obtain rfl := oK k2
  exact ⟨by decide, ⟨rfl, ⟨r.2.2.1, r.2.2.2.1, trivial⟩, hl, hf⟩⟩
 intro j s hq
 rcases o7 with w6 | _
 ·try dsimp only at k1 hq
  obtain ⟨rfl, hq⟩ := hq
  cases oK k1
  exact hq
 try dsimp only at k1 hq
 obtain ⟨rfl, r, hl, hf⟩ := hq
 refine Ra hl hf ?_
 rintro g29 s r hl hf
 cases oK k1
 exact ⟨Or.inr rfl, hl, AI (AK r.1)⟩
theorem I0 {σ : Type} {yf : (Ar 5 Int) → σ → Option (Bool × σ)} (n : Nat) : ∀ (R : σ → List Fr → Prop) (N : Nat), (∀ s low, R s low → low.length = N) → ∀ (yj yg : Nat), HS zL R yj yg (fun (x : (Ar 5 Int)) => [.d (zI.enc x)]) yf → ∀ (a0 : (Ar 5 Int)) (a1 : Int) (a2x : (Ar 5 Ew)) (a4xf0 : AA) (a5 : Int) (a6 : (Sl Int)) (pja2 : Nat) (pta2 : Nat) (pga2 : Nat) (pja3 : Nat) (pta3 : Nat) (pga3 : Nat) (pja4 : Nat) (pta4 : Nat) (pga4 : Nat) (wja4xf0 : Nat) (wta4xf0 : Nat) (wga4xf0 : Nat) (pja7 : Nat) (pta7 : Nat) (pga7 : Nat), (∀ st low, R st low → IH low pja2 pta2 = some (.box pga2 ((zI.cells a2x).map LV.d))) → (∀ st low, R st low → IH low pja3 pta3 = some (.box pga3 [.fn 86 [] [.ptr pja2 pta2 pga2 0, .ptr pja3 pta3 pga3 0, .ptr pja4 pta4 pga4 0, .d (.fptr [.int a5] 0), .d (.fptr [zI.enc a6] 0), .ptr pja7 pta7 pga7 0]])) → (wja4xf0 < N) → (∀ st low, R st low → IH low pja4 pta4 = some (.box pga4 [.fn 85 [.agg (AA.lc a4xf0 wja4xf0 wta4xf0 wga4xf0)] []])) → (∀ st low, R st low → IH low pja7 pta7 = some (.box pga7 [.yield yj yg])) → ∀ (low : List Fr) (st : σ), R st low → ∀ r : Bool × σ, Ao yf n a0 a1 a2x a4xf0 a5 a6 st = some r → mC zL 86 [.d (zI.enc a0), .d (.int a1), .ptr pja2 pta2 pga2 0, .ptr pja3 pta3 pga3 0, .ptr pja4 pta4 pga4 0, .d (.fptr [.int a5] 0), .d (.fptr [zI.enc a6] 0), .ptr pja7 pta7 pga7 0] R low (.d (.bool r.1)) r.2 := by
 induction n with
 | zero => intro R N hN yj yg hy a0 a1 a2x a4xf0 a5 a6 pja2 pta2 pga2 pja3 pta3 pga3 pja4 pta4 pga4 wja4xf0 wta4xf0 wga4xf0 pja7 pta7 pga7 ba2S ba3S hwa4xf0 ba4S ba7S low st hR r k0; simp [Ao] at k0
 | succ n ih =>
  intro R N hN yj yg hy a0 a1 a2x a4xf0 a5 a6 pja2 pta2 pga2 pja3 pta3 pga3 pja4 pta4 pga4 wja4xf0 wta4xf0 wga4xf0 pja7 pta7 pga7 ba2S ba3S hwa4xf0 ba4S ba7S low st hR r k0
  simp only [Ao] at k0; replace k0 := kq k0
  refine xR Bg GF ?_
  rintro s r hl hf
  have hlN : low.length = N := hN _ _ hR
  have ba2 := ba2S _ _ hR
  have ba3 := ba3S _ _ hR
  have ba4 := ba4S _ _ hR
  have ba7 := ba7S _ _ hR
  refine Ra hl hf ?_
  rintro g1 s r hl hf
  obtain ⟨v2, h3, k1⟩ := bnk k0
  have q5 := EG h3
  have q6 := Ef ba2
  have q7 := lK (sz := 2) h3 rfl
  refine Ra hl hf ?_
  rintro g4 s r hl hf
  refine Ra hl hf ?_
  rintro g8 s r hl hf
  refine blk ?_
  obtain ⟨zN, l16, k2⟩ := bnk k1
  refine Ax (f := BE (Ao yf n) yf a1 a2x a4xf0 a5 a6 v2) (E := fun (x : σ × (Ar 5 Int) × Int) s => B6 [I_ 1 a1, (3, .v (.ptr pja3 pta3 pga3 0)), (4, .v (.ptr pja4 pta4 pga4 0)), (5, .v (.d (.fptr [.int a5] 0))), (6, .v (.d (.fptr [zI.enc a6] 0))), (7, .v (.ptr pja7 pta7 pga7 0)), C_ 8 g1 x.2.1, C_ 11 (g4 + 1 + 1 + 1) v2, I_ 21 (W ((W (v2.High - v2.Low)) + 1)), I_ 22 x.2.2] s ∧ R x.1 s.low ∧ NoB Bg s) (Q := fun (o : ((Bool × σ) ⊕ (σ × (Ar 5 Int)))) j s => match o with | .inl w12 => j = .ret ∧ xY GF.1 R w12.2 (.d (.bool w12.1)) .ret s | .inr (y13, y14) => j = .exit 0 ∧ B6 [C_ 8 g1 y14, C_ 11 (g4 + 1 + 1 + 1) v2] s ∧ R y13 s.low ∧ NoB Bg s) l16 ?_ ⟨r, (by rw [hl]; exact hR), hf⟩ ?_
  ·rintro ⟨x9, x10, x11⟩ s out ⟨r, hR0, hf⟩ k3
   dsimp only at hR0 r
   obtain ⟨low, hl⟩ : ∃ l, s.low = l := ⟨_, rfl⟩
   rw [hl] at hR0
   have hR := hR0
   have hlN : low.length = N := hN _ _ hR
   have ba2 := ba2S _ _ hR
   have ba3 := ba3S _ _ hR
   have ba4 := ba4S _ _ hR
   have ba7 := ba7S _ _ hR
   simp only [BE] at k3
   refine Ra hl hf ?_
   rintro g17 s r hl hf
   refine DW r.2.2.2.2.2.2.2.2.2.2.1 k3 (fun c18 k3 => ?_) fun c18 k3 => ?_
   ·refine blk <| Ra hl hf ?_
    rintro g19 s r hl hf
    obtain ⟨v20, h21, k4⟩ := bnk k3
    have q23 := EG h21
    have q24 := uR h21
    refine Ra hl hf ?_
    rintro g22 s r hl hf
    refine Ra hl hf ?_
    rintro g25 s r hl hf
    refine DW r.2.2.2.2.2.2.2.2.2.2.1 k4 (fun zo k4 => ?_) fun zo k4 => ?_
    ·obtain ⟨⟨v27, t28⟩, h29, k5⟩ := bnk k4
     dsimp only at k5
     refine regS (B := Bg) (low := low) (Q := R t28) [I_ 1 a1, (3, .v (.ptr pja3 pta3 pga3 0)), (4, .v (.ptr pja4 pta4 pga4 0)), (5, .v (.d (.fptr [.int a5] 0))), (6, .v (.d (.fptr [zI.enc a6] 0))), (7, .v (.ptr pja7 pta7 pga7 0)), C_ 8 g1 (x10.put a1 (W (v2.Low + x11))), C_ 11 (g4 + 1 + 1 + 1) v2, I_ 21 (W ((W (v2.High - v2.Low)) + 1)), I_ 22 x11, B_ 38 (!v27)] hl hf ?_ ?_
     ·have f30 : ∀ (e : Env) (c : Nat), (om zL).call 86 [.d (zI.enc (x10.put a1 (W (v2.Low + x11)))), .d (.int (W (a1 + 1))), .ptr pja2 pta2 pga2 0, .ptr pja3 pta3 pga3 0, .ptr pja4 pta4 pga4 0, .d (.fptr [.int a5] 0), .d (.fptr [zI.enc a6] 0), .ptr pja7 pta7 pga7 0] (low ++ [⟨e, none⟩]) c = some (.d (.bool v27), aJ zL 86 [.d (zI.enc (x10.put a1 (W (v2.Low + x11)))), .d (.int (W (a1 + 1))), .ptr pja2 pta2 pga2 0, .ptr pja3 pta3 pga3 0, .ptr pja4 pta4 pga4 0, .d (.fptr [.int a5] 0), .d (.fptr [zI.enc a6] 0), .ptr pja7 pta7 pga7 0] (low ++ [⟨e, none⟩]) c ++ [⟨e, none⟩], TL zL 86 [.d (zI.enc (x10.put a1 (W (v2.Low + x11)))), .d (.int (W (a1 + 1))), .ptr pja2 pta2 pga2 0, .ptr pja3 pta3 pga3 0, .ptr pja4 pta4 pga4 0, .d (.fptr [.int a5] 0), .d (.fptr [zI.enc a6] 0), .ptr pja7 pta7 pga7 0] (low ++ [⟨e, none⟩]) c) ∧ R t28 (aJ zL 86 [.d (zI.enc (x10.put a1 (W (v2.Low + x11)))), .d (.int (W (a1 + 1))), .ptr pja2 pta2 pga2 0, .ptr pja3 pta3 pga3 0, .ptr pja4 pta4 pga4 0, .d (.fptr [.int a5] 0), .d (.fptr [zI.enc a6] 0), .ptr pja7 pta7 pga7 0] (low ++ [⟨e, none⟩]) c) ∧ (aJ zL 86 [.d (zI.enc (x10.put a1 (W (v2.Low + x11)))), .d (.int (W (a1 + 1))), .ptr pja2 pta2 pga2 0, .ptr pja3 pta3 pga3 0, .ptr pja4 pta4 pga4 0, .d (.fptr [.int a5] 0), .d (.fptr [zI.enc a6] 0), .ptr pja7 pta7 pga7 0] (low ++ [⟨e, none⟩]) c).length = low.length := fun e c => mC.om hN hR (ih (ri R ⟨e, none⟩) (N + 1) (SZ hN _) yj yg (hy.push _) (x10.put a1 (W (v2.Low + x11))) (W (a1 + 1)) a2x a4xf0 a5 a6 _ _ _ _ _ _ _ _ _ _ _ _ _ _ _ (Gn ba2S _) (Gn ba3S _) (by first | omega | (simp only [List.length_append, List.length_cons, List.length_nil]; omega)) (Gn ba4S _) (Gn ba7S _) _ _ ⟨low, rfl, hR⟩ _ h29) c
      simp only [rs, ps, G3, Ih, DI, hl, nob hf, hlN, r, (Ef ba3), (fun e c => (f30 e c).1), (fun e c => (f30 e c).2.1), (fun e c => (f30 e c).2.2), reduceCtorEq, Nat.reduceEqDiff, Nat.reduceAdd]
     rintro s r hR0 hf
     obtain ⟨low, hl⟩ : ∃ l, s.low = l := ⟨_, rfl⟩
     rw [hl] at hR0
     have hR := hR0
     have hlN : low.length = N := hN _ _ hR
     have ba2 := ba2S _ _ hR
     have ba3 := ba3S _ _ hR
     have ba4 := ba4S _ _ hR
     have ba7 := ba7S _ _ hR
     refine Kw r.2.2.2.2.2.2.2.2.2.2.1 k5 (fun c31 k5 => ?_) fun c31 k5 => ?_
     ·refine Ra hl hf ?_
      rintro g32 s r hl hf
      obtain rfl := oK k5
      exact ⟨rfl, r, (by rw [hl]; exact hR), hf⟩
     refine Ra hl hf ?_
     rintro g33 s r hl hf
     obtain rfl := oK k5
     exact ⟨by decide, ⟨rfl, ⟨Or.inr rfl, (by rw [hl]; exact hR), AI (AK r.1)⟩⟩⟩
    obtain ⟨v34, h35, k6⟩ := bnk k4
    have q38 := @Ih
    have q39 := Ef ba4
    have f36 : ∀ (e : Env) (c : Nat), (om zL).call 85 [.agg (AA.lc a4xf0 wja4xf0 wta4xf0 wga4xf0), .d (.int a5), .d (zI.enc (x10.put a1 (W (v2.Low + x11)))), .d (zI.enc a6)] (low ++ [⟨e, none⟩]) c = some (.d (.bool (v34)), low ++ [⟨e, none⟩], TL zL 85 [.agg (AA.lc a4xf0 wja4xf0 wta4xf0 wga4xf0), .d (.int a5), .d (zI.enc (x10.put a1 (W (v2.Low + x11)))), .d (zI.enc a6)] (low ++ [⟨e, none⟩]) c) := fun e c => LL.om (OW (by first | omega | (simp only [List.length_append, List.length_cons, List.length_nil]; omega)) h35) c
    have q40 := @f36
    refine Ra hl hf ?_
    rintro g37 s r hl hf
    refine Kw r.2.2.2.2.2.2.2.2.2.2.1 k6 (fun c41 k6 => ?_) fun c41 k6 => ?_
    ·obtain ⟨⟨v42, t43⟩, h44, k7⟩ := bnk k6
     dsimp only at k7
     refine regS (B := Bg) (low := low) (Q := R t43) [I_ 1 a1, (3, .v (.ptr pja3 pta3 pga3 0)), (4, .v (.ptr pja4 pta4 pga4 0)), (5, .v (.d (.fptr [.int a5] 0))), (6, .v (.d (.fptr [zI.enc a6] 0))), (7, .v (.ptr pja7 pta7 pga7 0)), C_ 8 g1 (x10.put a1 (W (v2.Low + x11))), C_ 11 (g4 + 1 + 1 + 1) v2, I_ 21 (W ((W (v2.High - v2.Low)) + 1)), I_ 22 x11, B_ 48 (!v42)] hl hf ?_ ?_
     ·have f45 : ∀ (fr : Fr) (c : Nat), (om zL).round yj yg [.d (zI.enc (x10.put a1 (W (v2.Low + x11))))] (low ++ [fr]) c = some (v42, ov zL yj yg [.d (zI.enc (x10.put a1 (W (v2.Low + x11))))] (low ++ [fr]) c ++ [fr], wP zL yj yg [.d (zI.enc (x10.put a1 (W (v2.Low + x11))))] (low ++ [fr]) c) ∧ R t43 (ov zL yj yg [.d (zI.enc (x10.put a1 (W (v2.Low + x11))))] (low ++ [fr]) c) ∧ (ov zL yj yg [.d (zI.enc (x10.put a1 (W (v2.Low + x11))))] (low ++ [fr]) c).length = low.length := fun fr c => hy.om hN hR h44 fr c
      simp only [rs, ps, lm, DI, hl, nob hf, hlN, r, (Ef ba7), (fun fr c => (f45 fr c).1), (fun fr c => (f45 fr c).2.1), (fun fr c => (f45 fr c).2.2), reduceCtorEq, Nat.reduceEqDiff, Nat.reduceAdd]
     rintro s r hR0 hf
     obtain ⟨low, hl⟩ : ∃ l, s.low = l := ⟨_, rfl⟩
     rw [hl] at hR0
     have hR := hR0
     have hlN : low.length = N := hN _ _ hR
     have ba2 := ba2S _ _ hR
     have ba3 := ba3S _ _ hR
     have ba4 := ba4S _ _ hR
     have ba7 := ba7S _ _ hR
     refine Kw r.2.2.2.2.2.2.2.2.2.2.1 k7 (fun c46 k7 => ?_) fun c46 k7 => ?_
     ·refine Ra hl hf ?_
      rintro g47 s r hl hf
      obtain rfl := oK k7
      exact ⟨rfl, r, (by rw [hl]; exact hR), hf⟩
     refine Ra hl hf ?_
     rintro g48 s r hl hf
     obtain rfl := oK k7
     exact ⟨by decide, ⟨rfl, ⟨Or.inr rfl, (by rw [hl]; exact hR), AI (AK r.1)⟩⟩⟩
    refine Ra hl hf ?_
    rintro g49 s r hl hf
    obtain rfl := oK k6
    exact ⟨rfl, r, (by rw [hl]; exact hR), hf⟩
   obtain rfl := oK k3
   exact ⟨by decide, ⟨rfl, ⟨r.2.2.2.2.2.2.1, r.2.2.2.2.2.2.2.1, trivial⟩, (by rw [hl]; exact hR), hf⟩⟩
  intro j s hq
  rcases zN with w12 | ⟨y13, y14⟩
  ·try dsimp only at k2 hq
   obtain ⟨rfl, hq⟩ := hq
   cases oK k2
   exact hq
  try dsimp only at k2 hq
  obtain ⟨rfl, r, hR0, hf⟩ := hq
  obtain ⟨low, hl⟩ : ∃ l, s.low = l := ⟨_, rfl⟩
  rw [hl] at hR0
  have hR := hR0
  have hlN : low.length = N := hN _ _ hR
  have ba2 := ba2S _ _ hR
  have ba3 := ba3S _ _ hR
  have ba4 := ba4S _ _ hR
  have ba7 := ba7S _ _ hR
  refine Ra hl hf ?_
  rintro g50 s r hl hf
  cases oK k2
  exact ⟨Or.inr rfl, (by rw [hl]; exact hR), AI (AK r.1)⟩
theorem Kp {σ : Type} {R : σ → List Fr → Prop} {N : Nat} (hN : ∀ s low, R s low → low.length = N) {yf : (Ar 5 Int) → σ → Option (Bool × σ)} {yj yg : Nat} (hy : HS zL R yj yg (fun (x : (Ar 5 Int)) => [.d (zI.enc x)]) yf) {a1 : AA} {a2 : Int} {a3 : (Sl Int)} {wja1 : Nat} {wta1 : Nat} {wga1 : Nat} (hwa1 : wja1 < N) {low : List Fr} {st : σ} (hR : R st low) {r : Unit × σ} (k0 : CG yf a1 a2 a3 st = some r) : mC zL 84 [.yield yj yg, .fptr (AA.lc a1 wja1 wta1 wga1) 0, .d (.fptr [.int a2] 0), .d (.fptr [zI.enc a3] 0)] R low (.d (.tup [])) r.2 := by
 unfold CG at k0; replace k0 := kq k0
 refine xR HW NV ?_
 rintro s r hl hf
 have hlN : low.length = N := hN _ _ hR
 refine Ra hl hf ?_
 rintro g1 s r hl hf
 have q3 := @TT
 have q4 := @Qr
 have q5 := @Ox
 refine Ra hl hf ?_
 rintro g2 s r hl hf
 obtain ⟨v6, h7, k1⟩ := bnk k0
 have q9 := @XM
 refine Ra hl hf ?_
 rintro g8 s r hl hf
 refine Ra hl hf ?_
 rintro g10 s r hl hf
 refine Ra hl hf ?_
 rintro g11 s r hl hf
 have q13 := @Ox
 refine Ra hl hf ?_
 rintro g12 s r hl hf
 obtain ⟨⟨v14, t15⟩, h16, k2⟩ := bnk k1
 dsimp only at k2
 refine regS (B := HW) (low := low) (Q := R t15) [] hl hf ?_ ?_
 ·have f17 : ∀ (e : Env) (c : Nat) (z0 : Env.get 7 e = some (.box (g10 + 1 + 1 + 1 + 1 + 1 + 1 + 1 + 1 + 1 + 1 + 1) ((zI.cells (⟨[v6.Low, v6.High, v6.Gain, v6.Turn, v6.Break], rfl⟩ : (Ar 5 Ew))).map LV.d))) (z1 : Env.get 8 e = some (.box g11 [.fn 86 [] [.ptr N 7 (g10 + 1 + 1 + 1 + 1 + 1 + 1 + 1 + 1 + 1 + 1 + 1) 0, .ptr N 8 g11 0, .ptr N 5 (g2 + 1 + 1) 0, .d (.fptr [.int a2] 0), .d (.fptr [zI.enc a3] 0), .ptr N 4 g1 0]])) (z2 : Env.get 5 e = some (.box (g2 + 1 + 1) [.fn 85 [.agg (AA.lc a1 wja1 wta1 wga1)] []])) (z3 : Env.get 4 e = some (.box g1 [.yield yj yg])), (om zL).call 86 [.d (zI.enc (⟨[(-1), (-1), (-1), (-1), (-1)], rfl⟩ : (Ar 5 Int))), .d (.int 0), .ptr N 7 (g10 + 1 + 1 + 1 + 1 + 1 + 1 + 1 + 1 + 1 + 1 + 1) 0, .ptr N 8 g11 0, .ptr N 5 (g2 + 1 + 1) 0, .d (.fptr [.int a2] 0), .d (.fptr [zI.enc a3] 0), .ptr N 4 g1 0] (low ++ [⟨e, none⟩]) c = some (.d (.bool v14), aJ zL 86 [.d (zI.enc (⟨[(-1), (-1), (-1), (-1), (-1)], rfl⟩ : (Ar 5 Int))), .d (.int 0), .ptr N 7 (g10 + 1 + 1 + 1 + 1 + 1 + 1 + 1 + 1 + 1 + 1 + 1) 0, .ptr N 8 g11 0, .ptr N 5 (g2 + 1 + 1) 0, .d (.fptr [.int a2] 0), .d (.fptr [zI.enc a3] 0), .ptr N 4 g1 0] (low ++ [⟨e, none⟩]) c ++ [⟨e, none⟩], TL zL 86 [.d (zI.enc (⟨[(-1), (-1), (-1), (-1), (-1)], rfl⟩ : (Ar 5 Int))), .d (.int 0), .ptr N 7 (g10 + 1 + 1 + 1 + 1 + 1 + 1 + 1 + 1 + 1 + 1 + 1) 0, .ptr N 8 g11 0, .ptr N 5 (g2 + 1 + 1) 0, .d (.fptr [.int a2] 0), .d (.fptr [zI.enc a3] 0), .ptr N 4 g1 0] (low ++ [⟨e, none⟩]) c) ∧ R t15 (aJ zL 86 [.d (zI.enc (⟨[(-1), (-1), (-1), (-1), (-1)], rfl⟩ : (Ar 5 Int))), .d (.int 0), .ptr N 7 (g10 + 1 + 1 + 1 + 1 + 1 + 1 + 1 + 1 + 1 + 1 + 1) 0, .ptr N 8 g11 0, .ptr N 5 (g2 + 1 + 1) 0, .d (.fptr [.int a2] 0), .d (.fptr [zI.enc a3] 0), .ptr N 4 g1 0] (low ++ [⟨e, none⟩]) c) ∧ (aJ zL 86 [.d (zI.enc (⟨[(-1), (-1), (-1), (-1), (-1)], rfl⟩ : (Ar 5 Int))), .d (.int 0), .ptr N 7 (g10 + 1 + 1 + 1 + 1 + 1 + 1 + 1 + 1 + 1 + 1 + 1) 0, .ptr N 8 g11 0, .ptr N 5 (g2 + 1 + 1) 0, .d (.fptr [.int a2] 0), .d (.fptr [zI.enc a3] 0), .ptr N 4 g1 0] (low ++ [⟨e, none⟩]) c).length = low.length := fun e c z0 z1 z2 z3 => mC.om hN hR (I0 64 (ri R ⟨e, none⟩) (N + 1) (SZ hN _) yj yg (hy.push _) (⟨[(-1), (-1), (-1), (-1), (-1)], rfl⟩ : (Ar 5 Int)) 0 (⟨[v6.Low, v6.High, v6.Gain, v6.Turn, v6.Break], rfl⟩ : (Ar 5 Ew)) a1 a2 a3 _ _ _ _ _ _ _ _ _ _ _ _ _ _ _ (K9 hN z0) (K9 hN z1) (by first | omega | (simp only [List.length_append, List.length_cons, List.length_nil]; omega)) (K9 hN z2) (K9 hN z3) _ _ ⟨low, rfl, hR⟩ _ h16) c
  simp only [rs, Be, G3, Ih, DI, hl, nob hf, hlN, r, QN, (fun e c z0 z1 z2 z3 => (f17 e c z0 z1 z2 z3).1), (fun e c z0 z1 z2 z3 => (f17 e c z0 z1 z2 z3).2.1), (fun e c z0 z1 z2 z3 => (f17 e c z0 z1 z2 z3).2.2), reduceCtorEq, Nat.reduceEqDiff, Nat.reduceAdd]
 rintro s - hR0 hf
 obtain ⟨low, hl⟩ : ∃ l, s.low = l := ⟨_, rfl⟩
 rw [hl] at hR0
 have hR := hR0
 have hlN : low.length = N := hN _ _ hR
 cases oK k2
 exact ⟨Or.inl rfl, (by rw [hl]; exact hR), qG _⟩
theorem JV {a0 : VoiceBook} {a1 : (Sl Int)} {r : AA} (k0 : Gi a0 a1 = some r) : Fin zL 49 [zI.enc a0, zI.enc a1] (zI.enc r) := by
 unfold Gi at k0; replace k0 := kq k0
 refine zU A7 YN ?_
 rintro low s ⟨r0, r1, -⟩ hl hf
 have q69 := @ME
 have q2 := @OI
 refine Ra hl hf ?_
 rintro g1 s ⟨r1, r2, r4, -⟩ hl hf
 have q4 := @LN
 have q5 := @Hj
 have q6 := @On
 have q7 := @OI
 refine Ra hl hf ?_
 rintro g3 s ⟨r1, r2, r4, r5, r12, -⟩ hl hf
 refine Ra hl hf ?_
 rintro g8 s ⟨r1, r2, r4, r5, r12, r16, r17, -⟩ hl hf
 refine blk ?_
 obtain ⟨o14, l15, k1⟩ := bnk k0
 refine Ax (f := EM a0 a1) (E := fun (x : AA × (List (List Int × (Sl (Ar 5 Int)))) × Int) s => B9 [E_ 1 a1, C_ 2 g1 a0, C_ 4 (g1 + 1) (AA.mk (VoiceBook.mk (Sl.nil : (Sl AO)) 0 (Sl.nil : (Sl AM))) (Sl.nil : (Sl (Sl (Ar 5 Int)))) (Mp.nil : (Mp 2 (Sl (Ar 5 Int))))), (5, .box (g3 + 1 + 1 + 1) (AV x.1 low.length 12 (g3 + 1))), (12, .mapo (g3 + 1) 2 (Dj x.2.1)), I_ 16 a0.Boys.len, I_ 17 x.2.2] s ∧ s.low = low ∧ NoB A7 s) (Q := fun (o : AA × (List (List Int × (Sl (Ar 5 Int))))) j s => match o with | (y12, y13) => j = .exit 0 ∧ B9 [C_ 2 g1 a0, C_ 4 (g1 + 1) (AA.mk (VoiceBook.mk (Sl.nil : (Sl AO)) 0 (Sl.nil : (Sl AM))) (Sl.nil : (Sl (Sl (Ar 5 Int)))) (Mp.nil : (Mp 2 (Sl (Ar 5 Int))))), (5, .box (g3 + 1 + 1 + 1) (AV y12 low.length 12 (g3 + 1))), (12, .mapo (g3 + 1) 2 (Dj y13))] s ∧ s.low = low ∧ NoB A7 s) l15 ?_ ⟨⟨r1, r2, r4, (xr r5 (Rk (AA.mk a0 (Sl.nil : (Sl (Sl (Ar 5 Int)))) (Mp.nil : (Mp 2 (Sl (Ar 5 Int))))) _ _ _)), r12, r16, r17, trivial⟩, hl, hf⟩ ?_
 ·rintro ⟨x9, x10, x11⟩ s out ⟨⟨r1, r2, r4, r5, r12, r16, r17, -⟩, hl, hf⟩ k2
  dsimp only at r5 r12 r17
  simp only [EM] at k2
  refine Ra hl hf ?_
  rintro g16 s ⟨r1, r2, r4, r5, r12, r16, r17, r18, -⟩ hl hf
  refine DW r18 k2 (fun c17 k2 => ?_) fun c17 k2 => ?_
  ·refine blk <| Ra hl hf ?_
   rintro g18 s ⟨r1, r2, r4, r5, r6, r12, r16, r17, -⟩ hl hf
   refine Ra hl hf ?_
   rintro g19 s ⟨r1, r2, r4, r5, r6, r7, r12, r16, r17, -⟩ hl hf
   have q22 := @Gp
   have f20 : ∀ (e : Env) (c : Nat), (om zL).call 70 [.agg (AA.lc x9 low.length 12 (g3 + 1)), .d (.int x11), .d (zI.enc a1)] (low ++ [⟨e, none⟩]) c = some (.fn 84 [] [.fptr (AA.lc x9 low.length 12 (g3 + 1)) 0, .d (.fptr [.int x11] 0), .d (.fptr [zI.enc a1] 0)], low ++ [⟨e, none⟩], TL zL 70 [.agg (AA.lc x9 low.length 12 (g3 + 1)), .d (.int x11), .d (zI.enc a1)] (low ++ [⟨e, none⟩]) c) := fun e c => LL.om (NT x9 x11 a1 (by first | omega | (simp only [List.length_append, List.length_cons, List.length_nil]; omega))) c
   have q23 := @f20
   refine Ra hl hf ?_
   rintro g21 s ⟨r1, r2, r4, r5, r6, r7, r12, r16, r17, zt, -⟩ hl hf
   refine blk ?_
   obtain ⟨⟨_, o53⟩, l54, k10⟩ := bnk k2
   refine Run.rng (B := A7) (base := low) (n := 84) (a := []) (b := [.fptr (AA.lc x9 low.length 12 (g3 + 1)) 0, .d (.fptr [.int x11] 0), .d (.fptr [zI.enc a1] 0)]) (jm := fun (_ : Unit) => zR.ret) (l := fun (o : ((Sl (Ar 5 Int)) × (List (List Int × (Sl (Ar 5 Int))))) ⊕ (Unit)) => match o with | .inl (x25, x26) => [(1, .v (.d (zI.enc a1))), (2, .box g1 ((zI.cells a0).map LV.d)), (4, .box (g1 + 1) ((zI.cells (AA.mk (VoiceBook.mk (Sl.nil : (Sl AO)) 0 (Sl.nil : (Sl AM))) (Sl.nil : (Sl (Sl (Ar 5 Int)))) (Mp.nil : (Mp 2 (Sl (Ar 5 Int)))))).map LV.d)), (5, .box (g3 + 1 + 1 + 1) (AV x9 low.length 12 (g3 + 1))), (6, .box (g18 + 1) [.d (.int x11)]), (7, .box g19 [Sl.lv x25]), (12, .mapo (g3 + 1) 2 (Dj x26)), (16, .v (.d (.int a0.Boys.len))), (17, .v (.d (.int x11))), (23, .v (.fn 84 [] [.fptr (AA.lc x9 low.length 12 (g3 + 1)) 0, .d (.fptr [.int x11] 0), .d (.fptr [zI.enc a1] 0)]))] | .inr _ => []) (t0 := ((Sl.nil : (Sl (Ar 5 Int))), x10)) (st' := o53) (v := .d (.tup [])) hl hf (by simp only [Nj, Jb, Fe, zt, IY, Oa, Q1, Vd, List.map_cons, List.map_nil]) ⟨r1, r2, r4, r5, r6, r7, r12, r16, r17, zt, trivial⟩ ?_ ?_
   ·intro g low1 hc
    refine Kp (R := rj A7 low g [24] _ _ (fun (_ : Unit) => zR.ret) (fun (o : ((Sl (Ar 5 Int)) × (List (List Int × (Sl (Ar 5 Int))))) ⊕ (Unit)) => match o with | .inl (x25, x26) => [(1, .v (.d (zI.enc a1))), (2, .box g1 ((zI.cells a0).map LV.d)), (4, .box (g1 + 1) ((zI.cells (AA.mk (VoiceBook.mk (Sl.nil : (Sl AO)) 0 (Sl.nil : (Sl AM))) (Sl.nil : (Sl (Sl (Ar 5 Int)))) (Mp.nil : (Mp 2 (Sl (Ar 5 Int)))))).map LV.d)), (5, .box (g3 + 1 + 1 + 1) (AV x9 low.length 12 (g3 + 1))), (6, .box (g18 + 1) [.d (.int x11)]), (7, .box g19 [Sl.lv x25]), (12, .mapo (g3 + 1) 2 (Dj x26)), (16, .v (.d (.int a0.Boys.len))), (17, .v (.d (.int x11))), (23, .v (.fn 84 [] [.fptr (AA.lc x9 low.length 12 (g3 + 1)) 0, .d (.fptr [.int x11] 0), .d (.fptr [zI.enc a1] 0)]))] | .inr _ => [])) (fun st l h => Vb st l h) ?_ (by first | omega | (simp only [List.length_append, List.length_cons, List.length_nil]; omega)) hc l54
    refine H5 (by decide) (fun _ => rfl) ?_
    rintro a24 ⟨x25, x26⟩ out k3 e above low0 lw lp s hr ha hr0 hBB hl hf
    obtain ⟨e1, e2, e4, e5, e6, e7, e12, e16, e17, e23, -⟩ := hr0
    have r1 : s.raw 1 = some (.v (.d (zI.enc a1))) := hr 1 _ rfl e1
    have r2 : s.raw 2 = some (.v (.ptr low.length 2 g1 0)) := hr 2 _ rfl e2
    have r4 : s.raw 4 = some (.v (.ptr low.length 4 (g1 + 1) 0)) := hr 4 _ rfl e4
    have r5 : s.raw 5 = some (.v (.ptr low.length 5 (g3 + 1 + 1 + 1) 0)) := hr 5 _ rfl e5
    have r6 : s.raw 6 = some (.v (.ptr low.length 6 (g18 + 1) 0)) := hr 6 _ rfl e6
    have r7 : s.raw 7 = some (.v (.ptr low.length 7 g19 0)) := hr 7 _ rfl e7
    have r12 : s.raw 12 = some (.v (.mref low.length 12 (g3 + 1))) := hr 12 _ rfl e12
    have r16 : s.raw 16 = some (.v (.d (.int a0.Boys.len))) := hr 16 _ rfl e16
    have r17 : s.raw 17 = some (.v (.d (.int x11))) := hr 17 _ rfl e17
    have zt : s.raw 23 = some (.v (.fn 84 [] [.fptr (AA.lc x9 low.length 12 (g3 + 1)) 0, .d (.fptr [.int x11] 0), .d (.fptr [zI.enc a1] 0)])) := hr 23 _ rfl e23
    obtain ⟨r24, -⟩ := ha
    simp only [FK] at k3
    replace k3 := kq k3
    refine Nx.run <| Ra hl hf ?_
    rintro g27 s ⟨r2, r5, r6, r7, r8, r12, -⟩ hl hf
    refine ⟨rfl, hl, ?_⟩
    intro s2 hraw hl
    replace r2 := (hraw 2).trans r2
    replace r5 := (hraw 5).trans r5
    replace r6 := (hraw 6).trans r6
    replace r7 := (hraw 7).trans r7
    replace r8 := (hraw 8).trans r8
    replace r12 := (hraw 12).trans r12
    replace hf := NoB.congr hf hraw
    clear hraw
    obtain ⟨s, hs⟩ : ∃ q, q = s2 := ⟨_, rfl⟩
    rw [← hs] at r2 r5 r6 r7 r8 r12 hl hf
    rw [← hs]
    clear hs s2
    have hB := hBB
    obtain ⟨m1, m2, m4, m5, m6, m7, m12, m16, m17, m23, -⟩ := IE.all hB
    have hlt : low.length < lw.length := by have := IE.len hB; omega
    refine Nx.run <| blk ?_
    obtain ⟨v28, h29, k4⟩ := bnk k3
    refine regS (B := A7) (low := lw) (Q := fun q => q = (CE (CE lw low.length 7 (.box g19 [Sl.lv x25.spent])) low.length 7 (.box g19 [Sl.lv v28]))) [(2, .v (.ptr low.length 2 g1 0)), (5, .v (.ptr low.length 5 (g3 + 1 + 1 + 1) 0)), (6, .v (.ptr low.length 6 (g18 + 1) 0)), C_ 8 g27 a24, (12, .v (.mref low.length 12 (g3 + 1)))] hl hf ?_ ?_
    ·simp only [rs, ps, Rb, IV, Gl, FH, KH, KA, JD, hl, nob hf, r2, r5, r6, r7, r8, r12, m1, m2, m4, m5, m6, m7, m12, m16, m17, m23, hlt, (fY (LP := zL) (x := x25) (j := low.length) (t := 7) (gb := g19)), (E5 (sz := 5) (x := x25) (y := (Sl.cold [a24] : Sl (Ar 5 Int))) rfl rfl h29), (Tu (x := v28)), reduceCtorEq, Nat.reduceEqDiff, Nat.reduceAdd]
    rintro s ⟨r2, r5, r6, r8, r12, -⟩ hl hf
    replace hl : s.low = (CE (CE lw low.length 7 (.box g19 [Sl.lv x25.spent])) low.length 7 (.box g19 [Sl.lv v28])) := hl
    replace hB := IE.set (l' := [(1, .v (.d (zI.enc a1))), (2, .box g1 ((zI.cells a0).map LV.d)), (4, .box (g1 + 1) ((zI.cells (AA.mk (VoiceBook.mk (Sl.nil : (Sl AO)) 0 (Sl.nil : (Sl AM))) (Sl.nil : (Sl (Sl (Ar 5 Int)))) (Mp.nil : (Mp 2 (Sl (Ar 5 Int)))))).map LV.d)), (5, .box (g3 + 1 + 1 + 1) (AV x9 low.length 12 (g3 + 1))), (6, .box (g18 + 1) [.d (.int x11)]), (7, .box g19 [Sl.lv x25.spent]), (12, .mapo (g3 + 1) 2 (Dj x26)), (16, .v (.d (.int a0.Boys.len))), (17, .v (.d (.int x11))), (23, .v (.fn 84 [] [.fptr (AA.lc x9 low.length 12 (g3 + 1)) 0, .d (.fptr [.int x11] 0), .d (.fptr [zI.enc a1] 0)]))]) hB 7 _ rfl (fun s ⟨q1, q2, q4, q5, q6, q7, q12, q16, q17, q23, _⟩ => ⟨(by rw [Ag, if_neg (by decide)]; exact q1), (by rw [Ag, if_neg (by decide)]; exact q2), (by rw [Ag, if_neg (by decide)]; exact q4), (by rw [Ag, if_neg (by decide)]; exact q5), (by rw [Ag, if_neg (by decide)]; exact q6), (by rw [Ag, if_pos rfl]), (by rw [Ag, if_neg (by decide)]; exact q12), (by rw [Ag, if_neg (by decide)]; exact q16), (by rw [Ag, if_neg (by decide)]; exact q17), (by rw [Ag, if_neg (by decide)]; exact q23), trivial⟩)
    replace hB := IE.set (l' := [(1, .v (.d (zI.enc a1))), (2, .box g1 ((zI.cells a0).map LV.d)), (4, .box (g1 + 1) ((zI.cells (AA.mk (VoiceBook.mk (Sl.nil : (Sl AO)) 0 (Sl.nil : (Sl AM))) (Sl.nil : (Sl (Sl (Ar 5 Int)))) (Mp.nil : (Mp 2 (Sl (Ar 5 Int)))))).map LV.d)), (5, .box (g3 + 1 + 1 + 1) (AV x9 low.length 12 (g3 + 1))), (6, .box (g18 + 1) [.d (.int x11)]), (7, .box g19 [Sl.lv v28]), (12, .mapo (g3 + 1) 2 (Dj x26)), (16, .v (.d (.int a0.Boys.len))), (17, .v (.d (.int x11))), (23, .v (.fn 84 [] [.fptr (AA.lc x9 low.length 12 (g3 + 1)) 0, .d (.fptr [.int x11] 0), .d (.fptr [zI.enc a1] 0)]))]) hB 7 _ rfl (fun s ⟨q1, q2, q4, q5, q6, q7, q12, q16, q17, q23, _⟩ => ⟨(by rw [Ag, if_neg (by decide)]; exact q1), (by rw [Ag, if_neg (by decide)]; exact q2), (by rw [Ag, if_neg (by decide)]; exact q4), (by rw [Ag, if_neg (by decide)]; exact q5), (by rw [Ag, if_neg (by decide)]; exact q6), (by rw [Ag, if_pos rfl]), (by rw [Ag, if_neg (by decide)]; exact q12), (by rw [Ag, if_neg (by decide)]; exact q16), (by rw [Ag, if_neg (by decide)]; exact q17), (by rw [Ag, if_neg (by decide)]; exact q23), trivial⟩)
    obtain ⟨lw, hlow⟩ : ∃ q, q = (CE (CE lw low.length 7 (.box g19 [Sl.lv x25.spent])) low.length 7 (.box g19 [Sl.lv v28])) := ⟨_, rfl⟩
    rw [← hlow] at hl hB
    obtain ⟨m1, m2, m4, m5, m6, m7, m12, m16, m17, m23, -⟩ := IE.all hB
    have hlt : low.length < lw.length := by have := IE.len hB; omega
    obtain ⟨v30, h31, k5⟩ := bnk k4
    obtain ⟨v32, h33, k6⟩ := bnk k5
    have q35 := @IV
    have q36 := @Gl
    have q37 := @FH
    have q38 := @KH
    have q39 := @KA
    have q40 := @JD
    have q41 := EG h31
    have q42 := D3 h31 rfl rfl
    refine Ra hl hf ?_
    rintro g34 s ⟨r5, r6, r8, r12, r34, r35, -⟩ hl hf
    refine blk ?_
    obtain ⟨o46, l47, k7⟩ := bnk k6
    refine Ax (f := Db x11 a24 v32) (E := fun (x : (List (List Int × (Sl (Ar 5 Int)))) × Int) s => B9 [(5, .v (.ptr low.length 5 (g3 + 1 + 1 + 1) 0)), (6, .v (.ptr low.length 6 (g18 + 1) 0)), C_ 8 g27 a24, I_ 34 v32, I_ 35 x.2] s ∧ IE A7 low above lp [(1, .v (.d (zI.enc a1))), (2, .box g1 ((zI.cells a0).map LV.d)), (4, .box (g1 + 1) ((zI.cells (AA.mk (VoiceBook.mk (Sl.nil : (Sl AO)) 0 (Sl.nil : (Sl AM))) (Sl.nil : (Sl (Sl (Ar 5 Int)))) (Mp.nil : (Mp 2 (Sl (Ar 5 Int)))))).map LV.d)), (5, .box (g3 + 1 + 1 + 1) (AV x9 low.length 12 (g3 + 1))), (6, .box (g18 + 1) [.d (.int x11)]), (7, .box g19 [Sl.lv v28]), (12, .mapo (g3 + 1) 2 (Dj x.1)), (16, .v (.d (.int a0.Boys.len))), (17, .v (.d (.int x11))), (23, .v (.fn 84 [] [.fptr (AA.lc x9 low.length 12 (g3 + 1)) 0, .d (.fptr [.int x11] 0), .d (.fptr [zI.enc a1] 0)]))] s.low ∧ NoB A7 s) (Q := fun (y45 : (List (List Int × (Sl (Ar 5 Int))))) j s => j = .exit 4 ∧ B9 [C_ 8 g27 a24] s ∧ IE A7 low above lp [(1, .v (.d (zI.enc a1))), (2, .box g1 ((zI.cells a0).map LV.d)), (4, .box (g1 + 1) ((zI.cells (AA.mk (VoiceBook.mk (Sl.nil : (Sl AO)) 0 (Sl.nil : (Sl AM))) (Sl.nil : (Sl (Sl (Ar 5 Int)))) (Mp.nil : (Mp 2 (Sl (Ar 5 Int)))))).map LV.d)), (5, .box (g3 + 1 + 1 + 1) (AV x9 low.length 12 (g3 + 1))), (6, .box (g18 + 1) [.d (.int x11)]), (7, .box g19 [Sl.lv v28]), (12, .mapo (g3 + 1) 2 (Dj y45)), (16, .v (.d (.int a0.Boys.len))), (17, .v (.d (.int x11))), (23, .v (.fn 84 [] [.fptr (AA.lc x9 low.length 12 (g3 + 1)) 0, .d (.fptr [.int x11] 0), .d (.fptr [zI.enc a1] 0)]))] s.low ∧ NoB A7 s) l47 ?_ ⟨⟨r5, r6, r8, r34, r35, trivial⟩, (by rw [hl]; exact hB), hf⟩ ?_
    ·rintro ⟨x43, x44⟩ s out ⟨⟨r5, r6, r8, r34, r35, -⟩, hB0, hf⟩ k8
     dsimp only at hB0 r35
     obtain ⟨lw, hl⟩ : ∃ l, s.low = l := ⟨_, rfl⟩
     rw [hl] at hB0
     have hB := hB0
     obtain ⟨m1, m2, m4, m5, m6, m7, m12, m16, m17, m23, -⟩ := IE.all hB
     have hlt : low.length < lw.length := by have := IE.len hB; omega
     simp only [Db] at k8
     refine lb (B := A7) (low := lw) [(5, .v (.ptr low.length 5 (g3 + 1 + 1 + 1) 0)), (6, .v (.ptr low.length 6 (g18 + 1) 0)), C_ 8 g27 a24, I_ 34 v32, I_ 35 x44, B_ 36 (decide (x44 < v32))] hl hf ?_ ?_
     ·simp only [rs, hl, nob hf, r5, r6, r8, r34, r35, m1, m2, m4, m5, m6, m7, m12, m16, m17, m23, hlt, reduceCtorEq, Nat.reduceEqDiff, Nat.reduceAdd]
     rintro s ⟨r5, r6, r8, r34, r35, r36, -⟩ hl hf
     refine DW r36 k8 (fun c48 k8 => ?_) fun c48 k8 => ?_
     ·refine blk <| lb (B := A7) (low := lw) [(5, .v (.ptr low.length 5 (g3 + 1 + 1 + 1) 0)), (6, .v (.ptr low.length 6 (g18 + 1) 0)), C_ 8 g27 a24, I_ 9 x44, I_ 34 v32, I_ 35 x44] hl hf ?_ ?_
      ·simp only [rs, hl, nob hf, r5, r6, r8, r34, r35, r36, m1, m2, m4, m5, m6, m7, m12, m16, m17, m23, hlt, reduceCtorEq, Nat.reduceEqDiff, Nat.reduceAdd]
      rintro s ⟨r5, r6, r8, r9, r34, r35, -⟩ hl hf
      refine lb (B := A7) (low := lw) [(5, .v (.ptr low.length 5 (g3 + 1 + 1 + 1) 0)), (6, .v (.ptr low.length 6 (g18 + 1) 0)), C_ 8 g27 a24, C_ 10 (s.ctr + 1 + 1 + 1) (Ad.mk x11 x44), I_ 34 v32, I_ 35 x44] hl hf ?_ ?_
      ·simp only [rs, ps, List.length_cons, List.length_nil, KD, Zb, IV, iO, Gl, FH, KH, KA, JD, iP, hl, nob hf, r5, r6, r8, r9, r34, r35, m1, m2, m4, m5, m6, m7, m12, m16, m17, m23, hlt, reduceCtorEq, Nat.reduceEqDiff, Nat.reduceAdd]
      generalize s.ctr + 1 + 1 + 1 = g49
      rintro s ⟨r5, r6, r8, r10, r34, r35, -⟩ hl hf
      refine lb (B := A7) (low := lw) [(5, .v (.ptr low.length 5 (g3 + 1 + 1 + 1) 0)), (6, .v (.ptr low.length 6 (g18 + 1) 0)), C_ 8 g27 a24, C_ 10 g49 (Ad.mk x11 x44), I_ 34 v32, I_ 35 x44, B_ 43 (!(decide (Bm.key (Ad.mk x11 x44) = Bm.key (Ad.mk (-1) (-1)))))] hl hf ?_ ?_
      ·simp only [rs, ps, JS, Jp, hl, nob hf, r5, r6, r8, r10, r34, r35, m1, m2, m4, m5, m6, m7, m12, m16, m17, m23, hlt, vT, reduceCtorEq, Nat.reduceEqDiff, Nat.reduceAdd]
      rintro s ⟨r5, r6, r8, r10, r34, r35, r43, -⟩ hl hf
      refine Kw r43 k8 (fun c50 k8 => ?_) fun c50 k8 => ?_
      ·refine lb (B := A7) (low := lw) [(5, .v (.ptr low.length 5 (g3 + 1 + 1 + 1) 0)), (6, .v (.ptr low.length 6 (g18 + 1) 0)), C_ 8 g27 a24, I_ 34 v32, I_ 35 (W (x44 + 1))] hl hf ?_ ?_
       ·simp only [rs, hl, nob hf, r5, r6, r8, r10, r34, r35, r43, m1, m2, m4, m5, m6, m7, m12, m16, m17, m23, hlt, reduceCtorEq, Nat.reduceEqDiff, Nat.reduceAdd]
       rintro s ⟨r5, r6, r8, r34, r35, -⟩ hl hf
       obtain rfl := oK k8
       exact ⟨rfl, ⟨r5, r6, r8, r34, r35, trivial⟩, (by rw [hl]; exact hB), hf⟩
      obtain ⟨v51, h52, k9⟩ := bnk k8
      refine regS (B := A7) (low := lw) (Q := fun q => q = (CE (CE lw low.length 12 (.mapo (g3 + 1) 2 (Dj (FA (Sl.nil : (Sl (Ar 5 Int))) F6.coolE x43 (Bm.key (Ad.mk x11 x44)))))) low.length 12 (.mapo (g3 + 1) 2 (Dj (Ei x43 (Bm.key (Ad.mk x11 x44)) v51))))) [(5, .v (.ptr low.length 5 (g3 + 1 + 1 + 1) 0)), (6, .v (.ptr low.length 6 (g18 + 1) 0)), C_ 8 g27 a24, I_ 34 v32, I_ 35 x44] hl hf ?_ ?_
      ·simp only [rs, ps, Be, Rb, G3, IV, Gl, FH, KH, On, ne_eq, not_false_eq_true, DI, KA, Js, JD, NP, hl, nob hf, r5, r6, r8, r10, r34, r35, r43, m1, m2, m4, m5, m6, m7, m12, m16, m17, m23, hlt, (Ta (n := 2) (Ad.mk x11 x44) rfl (by decide)), (ak (LP := zL) (j := low.length) (t := 12) (gm := g3 + 1) (key := (Bm.key (Ad.mk x11 x44))) (es := x43) (z := (Sl.nil : (Sl (Ar 5 Int)))) (hz := rfl)), (bS (LP := zL) (a := (NY (Sl.nil : (Sl (Ar 5 Int))) x43 (Bm.key (Ad.mk x11 x44)))) (y := .d (.int (Gv x43 (Bm.key (Ad.mk x11 x44)))))), (E5 (sz := 5) (x := (NY (Sl.nil : (Sl (Ar 5 Int))) x43 (Bm.key (Ad.mk x11 x44)))) (y := (Sl.cold [a24] : Sl (Ar 5 Int))) rfl rfl h52), (RO (LP := zL) (x := Sl.lv (Sl.spent (NY (Sl.nil : (Sl (Ar 5 Int))) x43 (Bm.key (Ad.mk x11 x44))))) (y := .int (Gv x43 (Bm.key (Ad.mk x11 x44))))), (ZA (LP := zL) (j := low.length) (t := 12) (gm := g3 + 1) (key := (Bm.key (Ad.mk x11 x44))) (es := x43) (z := (Sl.nil : (Sl (Ar 5 Int)))) (a := v51)), reduceCtorEq, Nat.reduceEqDiff, Nat.reduceAdd]
      rintro s ⟨r5, r6, r8, r34, r35, -⟩ hl hf
      replace hl : s.low = (CE (CE lw low.length 12 (.mapo (g3 + 1) 2 (Dj (FA (Sl.nil : (Sl (Ar 5 Int))) F6.coolE x43 (Bm.key (Ad.mk x11 x44)))))) low.length 12 (.mapo (g3 + 1) 2 (Dj (Ei x43 (Bm.key (Ad.mk x11 x44)) v51)))) := hl
      replace hB := IE.set (l' := [(1, .v (.d (zI.enc a1))), (2, .box g1 ((zI.cells a0).map LV.d)), (4, .box (g1 + 1) ((zI.cells (AA.mk (VoiceBook.mk (Sl.nil : (Sl AO)) 0 (Sl.nil : (Sl AM))) (Sl.nil : (Sl (Sl (Ar 5 Int)))) (Mp.nil : (Mp 2 (Sl (Ar 5 Int)))))).map LV.d)), (5, .box (g3 + 1 + 1 + 1) (AV x9 low.length 12 (g3 + 1))), (6, .box (g18 + 1) [.d (.int x11)]), (7, .box g19 [Sl.lv v28]), (12, .mapo (g3 + 1) 2 (Dj (FA (Sl.nil : (Sl (Ar 5 Int))) F6.coolE x43 (Bm.key (Ad.mk x11 x44))))), (16, .v (.d (.int a0.Boys.len))), (17, .v (.d (.int x11))), (23, .v (.fn 84 [] [.fptr (AA.lc x9 low.length 12 (g3 + 1)) 0, .d (.fptr [.int x11] 0), .d (.fptr [zI.enc a1] 0)]))]) hB 12 _ rfl (fun s ⟨q1, q2, q4, q5, q6, q7, q12, q16, q17, q23, _⟩ => ⟨(by rw [Ag, if_neg (by decide)]; exact q1), (by rw [Ag, if_neg (by decide)]; exact q2), (by rw [Ag, if_neg (by decide)]; exact q4), (by rw [Ag, if_neg (by decide)]; exact q5), (by rw [Ag, if_neg (by decide)]; exact q6), (by rw [Ag, if_neg (by decide)]; exact q7), (by rw [Ag, if_pos rfl]), (by rw [Ag, if_neg (by decide)]; exact q16), (by rw [Ag, if_neg (by decide)]; exact q17), (by rw [Ag, if_neg (by decide)]; exact q23), trivial⟩)
      replace hB := IE.set (l' := [(1, .v (.d (zI.enc a1))), (2, .box g1 ((zI.cells a0).map LV.d)), (4, .box (g1 + 1) ((zI.cells (AA.mk (VoiceBook.mk (Sl.nil : (Sl AO)) 0 (Sl.nil : (Sl AM))) (Sl.nil : (Sl (Sl (Ar 5 Int)))) (Mp.nil : (Mp 2 (Sl (Ar 5 Int)))))).map LV.d)), (5, .box (g3 + 1 + 1 + 1) (AV x9 low.length 12 (g3 + 1))), (6, .box (g18 + 1) [.d (.int x11)]), (7, .box g19 [Sl.lv v28]), (12, .mapo (g3 + 1) 2 (Dj (Ei x43 (Bm.key (Ad.mk x11 x44)) v51))), (16, .v (.d (.int a0.Boys.len))), (17, .v (.d (.int x11))), (23, .v (.fn 84 [] [.fptr (AA.lc x9 low.length 12 (g3 + 1)) 0, .d (.fptr [.int x11] 0), .d (.fptr [zI.enc a1] 0)]))]) hB 12 _ rfl (fun s ⟨q1, q2, q4, q5, q6, q7, q12, q16, q17, q23, _⟩ => ⟨(by rw [Ag, if_neg (by decide)]; exact q1), (by rw [Ag, if_neg (by decide)]; exact q2), (by rw [Ag, if_neg (by decide)]; exact q4), (by rw [Ag, if_neg (by decide)]; exact q5), (by rw [Ag, if_neg (by decide)]; exact q6), (by rw [Ag, if_neg (by decide)]; exact q7), (by rw [Ag, if_pos rfl]), (by rw [Ag, if_neg (by decide)]; exact q16), (by rw [Ag, if_neg (by decide)]; exact q17), (by rw [Ag, if_neg (by decide)]; exact q23), trivial⟩)
      obtain ⟨lw, hlow⟩ : ∃ q, q = (CE (CE lw low.length 12 (.mapo (g3 + 1) 2 (Dj (FA (Sl.nil : (Sl (Ar 5 Int))) F6.coolE x43 (Bm.key (Ad.mk x11 x44)))))) low.length 12 (.mapo (g3 + 1) 2 (Dj (Ei x43 (Bm.key (Ad.mk x11 x44)) v51)))) := ⟨_, rfl⟩
      rw [← hlow] at hl hB
      obtain ⟨m1, m2, m4, m5, m6, m7, m12, m16, m17, m23, -⟩ := IE.all hB
      have hlt : low.length < lw.length := by have := IE.len hB; omega
      refine lb (B := A7) (low := lw) [(5, .v (.ptr low.length 5 (g3 + 1 + 1 + 1) 0)), (6, .v (.ptr low.length 6 (g18 + 1) 0)), C_ 8 g27 a24, I_ 34 v32, I_ 35 (W (x44 + 1))] hl hf ?_ ?_
      ·simp only [rs, hl, nob hf, r5, r6, r8, r34, r35, m1, m2, m4, m5, m6, m7, m12, m16, m17, m23, hlt, reduceCtorEq, Nat.reduceEqDiff, Nat.reduceAdd]
      rintro s ⟨r5, r6, r8, r34, r35, -⟩ hl hf
      obtain rfl := oK k9
      exact ⟨rfl, ⟨r5, r6, r8, r34, r35, trivial⟩, (by rw [hl]; exact hB), hf⟩
     obtain rfl := oK k8
     exact ⟨by decide, ⟨rfl, ⟨r8, trivial⟩, (by rw [hl]; exact hB), hf⟩⟩
    intro j s hq
    obtain ⟨y45, rfl⟩ : ∃ x, x = o46 := ⟨_, rfl⟩
    try dsimp only at k7 hq
    obtain ⟨rfl, ⟨r8, -⟩, hB0, hf⟩ := hq
    obtain ⟨lw, hl⟩ : ∃ l, s.low = l := ⟨_, rfl⟩
    rw [hl] at hB0
    have hB := hB0
    obtain ⟨m1, m2, m4, m5, m6, m7, m12, m16, m17, m23, -⟩ := IE.all hB
    have hlt : low.length < lw.length := by have := IE.len hB; omega
    obtain rfl := oK k7
    exact ⟨rfl, rfl, by rw [hl]; exact NZ hB (fun s ⟨q1, q2, q4, q5, q6, q7, q12, q16, q17, q23, _⟩ => ⟨q1, q2, q4, q5, q6, q7, q12, q16, q17, q23, trivial⟩)⟩
   ·intro s hl hf hq
    rcases o53 with ⟨y55, y56⟩ | _
    ·try dsimp only at k10 hq
     obtain ⟨r1, r2, r4, r5, r6, r7, r12, r16, r17, zt, -⟩ := hq
     refine nX ?_
     obtain ⟨v57, h58, k11⟩ := bnk k10
     have q60 := @TC
     have q62 := E5 (sz := 1) (x := x9.truths.unf) (y := (Sl.cold [y55] : Sl (Sl (Ar 5 Int)))) rfl rfl h58
     refine Ra hl hf ?_ (h := by intro c; simp only [(gp (LP := zL) (j := low.length) (t := 5) (gb := g3 + 1 + 1 + 1) (off := 3) (cs := (AV x9 low.length 12 (g3 + 1))) (cs' := (AV (AA.mk x9.VoiceBook x9.truths.cool x9.whole) low.length 12 (g3 + 1))) (x := x9.truths) (hx := rfl) (hc := Ns x9 _ _ _)), (OT (vE h58 (by simp))), rt, ps, nob hf, *, reduceCtorEq, Nat.reduceEqDiff, Nat.reduceAdd, Nat.reduceMul] <;> rfl)
     rintro g59 s ⟨r1, r2, r4, r5, r12, r16, r17, -⟩ hl hf
     refine Ra hl hf ?_
     rintro g64 s ⟨r1, r2, r4, r5, r12, r16, r17, -⟩ hl hf
     obtain rfl := oK k11
     exact ⟨rfl, ⟨r1, r2, r4, r5, r12, r16, r17, trivial⟩, hl, hf⟩
    ·cases k10
  obtain rfl := oK k2
  exact ⟨by decide, ⟨rfl, ⟨r2, r4, r5, r12, trivial⟩, hl, hf⟩⟩
 intro j s hq
 obtain ⟨y12, y13⟩ := o14
 try dsimp only at k1 hq
 obtain ⟨rfl, ⟨r2, r4, r5, r12, -⟩, hl, hf⟩ := hq
 have q66 := @LN
 have q67 := @Hj
 have q68 := @Gp
 refine Ra hl hf ?_
 rintro g65 s ⟨r4, r12, -⟩ hl hf
 cases oK k1
 exact ⟨Or.inr rfl, hl, AI (S1 (by rw [hl]; exact r4) r12)⟩
def rp := fun a0 a1 => Cq.mk (@JV a0 a1)
end Go.Lf
