/- A part of the proof. -/
import Derived.Test.YtohgomfnigdaoaaDoory20
import Derived.Test.YtohgomfnigdaoaaDoory22
import Derived.Test.YtohgomfnigdaoaaDoory49
import Derived.Test.YtohgomfnigdaoaaDoory50
set_option linter.all false
set_option maxHeartbeats 9999999
namespace Go.Lf
open Go
theorem ZU {a0 : (Sl Int)} {r : Aq} (k0 : AP a0 = some r) : Fin zL 16 [Enc.enc a0] (Enc.enc r) := by
 unfold AP at k0; replace k0 := kq k0
 refine fnN M8 cO ?_
 rintro low s r hl hf
 have q25 := @Kr
 have q2 := @mb
 refine Ra hl hf ?_
 rintro g1 s r hl hf
 have q4 := @IZ
 refine Ra hl hf ?_
 rintro g3 s r hl hf
 refine Ra hl hf ?_
 rintro g5 s r hl hf
 refine blk ?_
 obtain ⟨o9, l10, k1⟩ := bnk k0
 refine BG (f := IU a0) (E := fun (x : Aq × Int) s => Dn [E_ 0 a0, C_ 2 g1 (Aq.mk 0 (Sl.nil : (Sl BS)) 0 0 0 (Sl.nil : (Sl JK))), (3, .box (g3 + 1) (CP x.1)), I_ 4 x.2] s ∧ s.low = low ∧ NoB M8 s) (Q := fun (y8 : Aq) j s => j = .exit 0 ∧ Dn [C_ 2 g1 (Aq.mk 0 (Sl.nil : (Sl BS)) 0 0 0 (Sl.nil : (Sl JK))), (3, .box (g3 + 1) (CP y8))] s ∧ s.low = low ∧ NoB M8 s) l10 ?_ ⟨⟨r.1, r.2.1, (rC r.2.2.1 (VH (Aq.mk 1 (Sl.nil : (Sl BS)) 0 255 0 (Sl.nil : (Sl JK))))), r.2.2.2.1, trivial⟩, hl, hf⟩ ?_
 ·rintro ⟨x6, x7⟩ s out ⟨r, hl, hf⟩ k2
  dsimp only at r
  simp only [IU] at k2
  refine Ra hl hf ?_
  rintro g11 s r hl hf
  refine Fg r.2.2.2.2.1 k2 (fun c12 k2 => ?_) fun c12 k2 => ?_
  ·refine blk ?_
   obtain ⟨v13, h14, k3⟩ := bnk k2
   obtain ⟨v15, h16, k4⟩ := bnk k3
   have q18 := @O3
   have q20 := Es (sz := 2) (x := x6.Voices.unf) (y := (Sl.cold [(Bt (W (3 * x7)) (W ((W ((W (3 * x7)) + v13)) - 1)))] : Sl BS)) rfl rfl h16
   refine Ra hl hf ?_ (h := by intro c; simp only [(KX (LP := zL) (j := low.length) (t := 3) (gb := g3 + 1) (off := 1) (cs := (CP x6)) (cs' := (CP (Aq.mk x6.Notes x6.Voices.cool x6.Step x6.Chords x6.Perfect x6.Copies))) (x := x6.Voices) (hx := rfl) (hc := Qa x6)), (Qc (cg h16 (by simp))), rt, ps, nob hf, *, reduceCtorEq, Nat.reduceEqDiff, Nat.reduceAdd, Nat.reduceMul] <;> rfl)
   rintro g17 s r hl hf
   refine Ra hl hf ?_
   rintro g22 s r hl hf
   obtain rfl := oK k4
   exact ⟨rfl, r, hl, hf⟩
  obtain rfl := oK k2
  exact ⟨by decide, ⟨rfl, ⟨r.2.1, r.2.2.1, trivial⟩, hl, hf⟩⟩
 intro j s hq
 obtain ⟨y8, rfl⟩ : ∃ x, x = o9 := ⟨_, rfl⟩
 try dsimp only at k1 hq
 obtain ⟨rfl, r, hl, hf⟩ := hq
 have q24 := @Np
 refine Ra hl hf ?_
 rintro g23 s r hl hf
 cases oK k1
 exact ⟨Or.inr rfl, hl, AU (EG r.1 rfl)⟩
def RL := fun a0 => Cq.mk (@ZU a0)
def We : ∀ (a0 : Aq), (Cq zL 15 [Enc.enc a0] (Ai a0) fun x => .d (Enc.enc x)) := fun a0 => ye
theorem Zl {a0 : (Sl Int)} {a1 : (Sl Int)} {r : Bool} (k0 : CN a0 a1 = some r) : Fin zL 21 [Enc.enc a0, Enc.enc a1] (.bool r) := by
 unfold CN at k0; replace k0 := kq k0
 refine fnN MR cz ?_
 rintro low s r hl hf
 refine Ra hl hf ?_
 rintro g1 s r hl hf
 refine Ra hl hf ?_
 rintro g2 s r hl hf
 refine Ra hl hf ?_
 rintro g3 s r hl hf
 refine blk ?_
 obtain ⟨o7, l8, k1⟩ := bnk k0
 refine BG (f := B7 a0 a1) (E := fun (x : Bool × Int) s => Dn [E_ 0 a0, E_ 1 a1, B_ 5 x.1, I_ 6 x.2] s ∧ s.low = low ∧ NoB MR s) (Q := fun (y6 : Bool) j s => j = .exit 0 ∧ Dn [B_ 5 y6] s ∧ s.low = low ∧ NoB MR s) l8 ?_ ⟨r, hl, hf⟩ ?_
 ·rintro ⟨x4, x5⟩ s out ⟨r, hl, hf⟩ k2
  dsimp only at r
  simp only [B7] at k2
  refine Rx (fun g11 => [B_ 18 (x4 && (decide (x5 < a0.len)))]) hl hf ?_
  rintro g11 s r hl hf
  refine Fg r.2.2.2.2.1 k2 (fun c12 k2 => ?_) fun c12 k2 => ?_
  ·refine blk ?_
   obtain ⟨v13, h14, k3⟩ := bnk k2
   obtain ⟨v15, h16, k4⟩ := bnk k3
   refine Ra hl hf ?_
   rintro g17 s r hl hf
   refine Ra hl hf ?_
   rintro g18 s r hl hf
   obtain rfl := oK k4
   exact ⟨rfl, r, hl, hf⟩
  obtain rfl := oK k2
  exact ⟨by decide, ⟨rfl, ⟨r.2.2.1, trivial⟩, hl, hf⟩⟩
 intro j s hq
 obtain ⟨y6, rfl⟩ : ∃ x, x = o7 := ⟨_, rfl⟩
 try dsimp only at k1 hq
 obtain ⟨rfl, r, hl, hf⟩ := hq
 refine Ra hl hf ?_
 rintro g19 s r hl hf
 cases oK k1
 exact ⟨Or.inr rfl, hl, AU (AO r.1)⟩
def SJ := fun a0 a1 => Cq.mk (@Zl a0 a1)
theorem Zm {r : Bool} (k0 : Cf = some r) : Fin zL 6 [] (.bool r) := by
 unfold Cf at k0; replace k0 := kq k0
 refine fnN bP bD ?_
 rintro low s - hl hf
 have q49 := @QZ
 have q50 := @Uf
 have q51 := @Ur
 have q52 := @We
 have q53 := @Kr
 have q54 := @SJ
 have q55 := @RL
 have q56 := @Oj
 have q57 := @cP
 have q58 := @Uk
 refine Ra hl hf ?_
 rintro g1 s - hl hf
 obtain ⟨v2, h3, k1⟩ := bnk k0
 obtain ⟨v4, h5, k2⟩ := bnk k1
 refine Ra hl hf ?_
 rintro g6 s r hl hf
 obtain ⟨v7, h8, k3⟩ := bnk k2
 try clear h3
 obtain ⟨v9, h10, k4⟩ := bnk k3
 obtain ⟨v11, h12, k5⟩ := bnk k4
 refine Ra hl hf ?_
 rintro g13 s r hl hf
 obtain ⟨v14, h15, k6⟩ := bnk k5
 try clear h3
 try clear h8
 obtain ⟨v16, h17, k7⟩ := bnk k6
 obtain ⟨v18, h19, k8⟩ := bnk k7
 refine Ra hl hf ?_
 rintro g20 s r hl hf
 obtain ⟨v21, h22, k9⟩ := bnk k8
 try clear h3
 try clear h8
 try clear h15
 obtain ⟨v23, h24, k10⟩ := bnk k9
 obtain ⟨v25, h26, k11⟩ := bnk k10
 refine Ra hl hf ?_
 rintro g27 s r hl hf
 obtain ⟨v28, h29, k12⟩ := bnk k11
 obtain ⟨v30, h31, k13⟩ := bnk k12
 refine Ra hl hf ?_
 rintro g32 s r hl hf
 obtain ⟨o46, q, k14⟩ := bnk k13
 refine Rq (fun g48 => [B_ 0 o46]) hl hf q ?_
 rintro g48 s r hl hf
 cases oK k14
 exact ⟨Or.inr rfl, hl, AU (AO r.1)⟩
def R9 := Cq.mk (@Zm)
theorem Ve {a0 : (Sl Int)} {a1 : Int} {r : Bool} (k0 : DY a0 a1 = some r) : Fin zL 12 [Enc.enc a0, .int a1] (.bool r) := by
 unfold DY at k0; replace k0 := kq k0
 refine fnN Jh OB ?_
 rintro low s r hl hf
 have q22 := @VE
 refine Ra hl hf ?_
 rintro g1 s r hl hf
 refine Ra hl hf ?_
 rintro g2 s r hl hf
 refine blk ?_
 obtain ⟨o5, l6, k1⟩ := bnk k0
 refine BG (f := CW a0 a1) (E := fun (x : Int) s => Dn [E_ 0 a0, I_ 1 a1, I_ 5 x] s ∧ s.low = low ∧ NoB Jh s) (Q := fun (o : ((Bool) ⊕ (Unit))) j s => match o with | .inl w4 => j = .ret ∧ FnJ OB.1 low (.d (.bool w4)) .ret s | .inr _ => j = .exit 0 ∧ Dn [] s ∧ s.low = low ∧ NoB Jh s) l6 ?_ ⟨r, hl, hf⟩ ?_
 ·rintro x3 s out ⟨r, hl, hf⟩ k2
  unfold CW at k2
  refine Ra hl hf ?_
  rintro g7 s r hl hf
  refine Fg r.2.2.2.1 k2 (fun c8 k2 => ?_) fun c8 k2 => ?_
  ·refine blk ?_
   obtain ⟨o15, q, k4⟩ := bnk k2
   refine Rq (fun g17 => [B_ 35 o15]) hl hf q ?_
   rintro g17 s r hl hf
   refine Fg r.2.2.2.1 k4 (fun c18 k4 => ?_) fun c18 k4 => ?_
   ·refine Ra hl hf ?_
    rintro g19 s r hl hf
    obtain rfl := oK k4
    exact ⟨by decide, ⟨rfl, ⟨Or.inr rfl, hl, AU (AO r.1)⟩⟩⟩
   refine Ra hl hf ?_
   rintro g20 s r hl hf
   obtain rfl := oK k4
   exact ⟨rfl, r, hl, hf⟩
  obtain rfl := oK k2
  exact ⟨by decide, ⟨rfl, trivial, hl, hf⟩⟩
 intro j s hq
 rcases o5 with w4 | _
 ·try dsimp only at k1 hq
  obtain ⟨rfl, hq⟩ := hq
  cases oK k1
  exact hq
 try dsimp only at k1 hq
 obtain ⟨rfl, -, hl, hf⟩ := hq
 refine Ra hl hf ?_
 rintro g21 s r hl hf
 cases oK k1
 exact ⟨Or.inr rfl, hl, AU (AO r.1)⟩
def Oy := fun a0 a1 => Cq.mk (@Ve a0 a1)
theorem dX {a0 : BenchBook} {r : ((Sl AC) × Int)} (k0 : LK a0 = some r) : Fin zL 14 [Enc.enc a0] (Enc.enc r) := by
 unfold LK at k0; replace k0 := kq k0
 refine fnN eI fD ?_
 rintro low s r hl hf
 have q20 := @GR
 have q21 := @HW
 have q22 := @FZ
 refine Ra hl hf ?_
 rintro g1 s r hl hf
 obtain ⟨v2, h3, k1⟩ := bnk k0
 refine Ra hl hf ?_
 rintro g4 s r hl hf
 refine Ra hl hf ?_
 rintro g5 s r hl hf
 refine RG r.2.2.1 k1 (fun c6 k1 => ?_) fun c6 k1 => ?_
 ·obtain ⟨v7, h8, k2⟩ := bnk k1
  obtain ⟨v9, h10, k3⟩ := bnk k2
  obtain ⟨v11, h12, k4⟩ := bnk k3
  have q14 := Fin.call (LP := zL) (ds := [Enc.enc v2.1, .nils]) (FW h8)
  refine Ra hl hf ?_
  rintro g13 s r hl hf
  refine Ra hl hf ?_
  rintro g15 s r hl hf
  refine RG r.2.1 k4 (fun c16 k4 => ?_) fun c16 k4 => ?_
  ·refine Ra hl hf ?_
   rintro g17 s r hl hf
   cases oK k4
   exact ⟨Or.inr rfl, hl, Bn (AO r.1) (AO r.2.1)⟩
  refine Ra hl hf ?_
  rintro g18 s r hl hf
  cases oK k4
  exact ⟨Or.inr rfl, hl, Bn (AO r.1) (AO r.2.1)⟩
 refine Ra hl hf ?_
 rintro g19 s r hl hf
 cases oK k1
 exact ⟨Or.inr rfl, hl, Bn (AO r.1) (AO r.2.1)⟩
def f6 := fun a0 => Cq.mk (@dX a0)
theorem P7 {a0 : VoiceBook} {a1 : (Sl Int)} {r : Bool} (k0 : L6 a0 a1 = some r) : Fin zL 3 [Enc.enc a0, Enc.enc a1] (.bool r) := by
 unfold L6 at k0; replace k0 := kq k0
 refine fnN Et MJ ?_
 rintro low s r hl hf
 have q145 := @QZ
 have q146 := @f6
 have q147 := @Ur
 have q148 := @We
 have q149 := @Oy
 have q150 := @OM
 have q151 := @eQ
 have q152 := @RL
 have q153 := @R9
 have q154 := @TP
 have q155 := @SO
 have q156 := @Oj
 refine Ra hl hf ?_
 rintro g1 s r hl hf
 obtain ⟨v2, h3, k1⟩ := bnk k0
 refine Ra hl hf ?_
 rintro g4 s r hl hf
 refine RG r.2.2.1 k1 (fun c5 k1 => ?_) fun c5 k1 => ?_
 ·refine Ra hl hf ?_
  rintro g6 s r hl hf
  obtain ⟨v7, h8, k2⟩ := bnk k1
  have q10 := @dV
  have q11 := ll (sz := 11) rfl h8
  refine Ra hl hf ?_
  rintro g9 s r hl hf
  have q13 := @jv
  refine Ra hl hf ?_
  rintro g12 s r hl hf
  refine Ra hl hf ?_
  rintro g14 s r hl hf
  refine blk ?_
  obtain ⟨o20, l21, k3⟩ := bnk k2
  refine BG (f := Dj a0 a1) (E := fun (x : (Sl Int) × (Sl BS) × Int) s => Dn [E_ 1 a1, C_ 2 g1 a0, C_ 5 (g6 + 1) (VoiceBook.mk v7 a0.Weeks (Sl.nil : (Sl AI))), (6, .v (Sl.lv x.1)), (7, .v (Sl.lv x.2.1)), I_ 8 x.2.2] s ∧ s.low = low ∧ NoB Et s) (Q := fun (o : (Sl Int) × (Sl BS)) j s => match o with | (y18, y19) => j = .exit 0 ∧ Dn [C_ 2 g1 a0, C_ 5 (g6 + 1) (VoiceBook.mk v7 a0.Weeks (Sl.nil : (Sl AI))), (6, .v (Sl.lv y18)), (7, .v (Sl.lv y19))] s ∧ s.low = low ∧ NoB Et s) l21 ?_ ⟨r, hl, hf⟩ ?_
  ·rintro ⟨x15, x16, x17⟩ s out ⟨r, hl, hf⟩ k4
   dsimp only at r
   simp only [Dj] at k4
   refine Rx (fun g24 => [B_ 48 ((decide ((W (x17 + 2)) < a1.len)) && (decide (x16.len < 3)))]) hl hf ?_
   rintro g24 s r hl hf
   refine Fg r.2.2.2.2.2.2.1 k4 (fun c25 k4 => ?_) fun c25 k4 => ?_
   ·refine blk ?_
    obtain ⟨v26, h27, k5⟩ := bnk k4
    obtain ⟨v28, h29, k6⟩ := bnk k5
    obtain ⟨v30, h31, k7⟩ := bnk k6
    obtain ⟨v32, h33, k8⟩ := bnk k7
    obtain ⟨v34, h35, k9⟩ := bnk k8
    obtain ⟨v36, h37, k10⟩ := bnk k9
    obtain ⟨v38, h39, k11⟩ := bnk k10
    have q41 := Es (sz := 2) (x := x16) (y := (Sl.cold [v36] : Sl BS)) rfl rfl h39
    refine Ra hl hf ?_
    rintro g40 s r hl hf
    refine Ra hl hf ?_
    rintro g42 s r hl hf
    obtain rfl := oK k11
    exact ⟨rfl, ⟨r.1, r.2.1, r.2.2.1, (qO r.2.2.2.1), r.2.2.2.2.1, r.2.2.2.2.2.1, trivial⟩, hl, hf⟩
   obtain rfl := oK k4
   exact ⟨by decide, ⟨rfl, ⟨r.2.1, r.2.2.1, r.2.2.2.1, r.2.2.2.2.1, trivial⟩, hl, hf⟩⟩
  intro j s hq
  obtain ⟨y18, y19⟩ := o20
  try dsimp only at k3 hq
  obtain ⟨rfl, r, hl, hf⟩ := hq
  refine Ra hl hf ?_
  rintro g43 s r hl hf
  refine Fg r.2.2.2.1 k3 (fun c44 k3 => ?_) fun c44 k3 => ?_
  ·obtain ⟨v45, h46, k12⟩ := bnk k3
   refine Ra hl hf ?_
   rintro g47 s r hl hf
   cases oK k12
   exact ⟨Or.inr rfl, hl, AU (AO r.1)⟩
  obtain ⟨v48, h49, k13⟩ := bnk k3
  refine Ra hl hf ?_
  rintro g50 s r hl hf
  refine Ra hl hf ?_
  rintro g51 s r hl hf
  have q53 := @VS
  refine Ra hl hf ?_
  rintro g52 s r hl hf
  refine Ra hl hf ?_
  rintro g54 s r hl hf
  refine blk ?_
  obtain ⟨o63, l64, k14⟩ := bnk k13
  refine BG (f := EU v7 y19 v48) (E := fun (x : (Sl Int) × Bool × (Sl AC) × Int) s => Dn [C_ 5 (g6 + 1) (VoiceBook.mk v7 a0.Weeks (Sl.nil : (Sl AI))), (7, .v (Sl.lv y19)), C_ 9 (g50 + 1 + 1 + 1 + 1) v48, (10, .v (Sl.lv x.1)), B_ 11 x.2.1, (12, .v (Sl.lv x.2.2.1)), I_ 13 x.2.2.2] s ∧ s.low = low ∧ NoB Et s) (Q := fun (o : ((Bool) ⊕ ((Sl Int) × Bool × (Sl AC)))) j s => match o with | .inl w59 => j = .ret ∧ FnJ MJ.1 low (.d (.bool w59)) .ret s | .inr (y60, y61, y62) => j = .exit 2 ∧ Dn [C_ 5 (g6 + 1) (VoiceBook.mk v7 a0.Weeks (Sl.nil : (Sl AI))), C_ 9 (g50 + 1 + 1 + 1 + 1) v48, (10, .v (Sl.lv y60)), B_ 11 y61, (12, .v (Sl.lv y62))] s ∧ s.low = low ∧ NoB Et s) l64 ?_ ⟨r, hl, hf⟩ ?_
  ·rintro ⟨x55, x56, x57, x58⟩ s out ⟨r, hl, hf⟩ k15
   dsimp only at r
   simp only [EU] at k15
   refine Ra hl hf ?_
   rintro g65 s r hl hf
   refine Fg r.2.2.2.2.2.2.2.1 k15 (fun c66 k15 => ?_) fun c66 k15 => ?_
   ·refine blk ?_
    obtain ⟨v67, h68, k16⟩ := bnk k15
    refine Ra hl hf ?_
    rintro g69 s r hl hf
    obtain ⟨o73, q, k17⟩ := bnk k16
    refine Rq (fun g75 => [B_ 105 o73]) hl hf q ?_
    rintro g75 s r hl hf
    refine Fg r.2.2.2.2.2.2.2.2.1 k17 (fun c76 k17 => ?_) fun c76 k17 => ?_
    ·refine Ra hl hf ?_
     rintro g77 s r hl hf
     obtain rfl := oK k17
     exact ⟨by decide, ⟨rfl, ⟨Or.inr rfl, hl, AU (AO r.1)⟩⟩⟩
    obtain ⟨v78, h79, k18⟩ := bnk k17
    refine Rx (fun g82 => [E_ 10 v78, B_ 11 (x56 || (decide (v67.1.len = 0)))]) hl hf ?_
    rintro g82 s r hl hf
    refine Ra hl hf ?_
    rintro g83 s r hl hf
    refine Fg r.2.2.2.2.2.2.2.2.1 k18 (fun c84 k18 => ?_) fun c84 k18 => ?_
    ·obtain ⟨v85, h86, k19⟩ := bnk k18
     obtain ⟨v87, h88, k20⟩ := bnk k19
     have q90 := @TS
     have q91 := Es (sz := 3) (x := x57) (y := (Sl.cold [(AC.mk x58 0 v85)] : Sl AC)) rfl rfl h88
     refine Ra hl hf ?_
     rintro g89 s r hl hf
     refine Ra hl hf ?_
     rintro g92 s r hl hf
     obtain rfl := oK k20
     exact ⟨rfl, ⟨r.1, r.2.1, r.2.2.1, (qO r.2.2.2.1), r.2.2.2.2.1, r.2.2.2.2.2.1, r.2.2.2.2.2.2.1, trivial⟩, hl, hf⟩
    refine Ra hl hf ?_
    rintro g93 s r hl hf
    obtain rfl := oK k18
    exact ⟨rfl, ⟨r.1, r.2.1, r.2.2.1, (qO r.2.2.2.1), r.2.2.2.2.1, r.2.2.2.2.2.1, r.2.2.2.2.2.2.1, trivial⟩, hl, hf⟩
   obtain rfl := oK k15
   exact ⟨by decide, ⟨rfl, ⟨r.1, r.2.2.1, r.2.2.2.1, r.2.2.2.2.1, r.2.2.2.2.2.1, trivial⟩, hl, hf⟩⟩
  intro j s hq
  rcases o63 with w59 | ⟨y60, y61, y62⟩
  ·try dsimp only at k14 hq
   obtain ⟨rfl, hq⟩ := hq
   cases oK k14
   exact hq
  try dsimp only at k14 hq
  obtain ⟨rfl, r, hl, hf⟩ := hq
  obtain ⟨v94, h95, k21⟩ := bnk k14
  refine Ra hl hf ?_
  rintro g96 s r hl hf
  obtain ⟨v97, h98, k22⟩ := bnk k21
  refine Ra hl hf ?_
  rintro g99 s r hl hf
  refine Ra hl hf ?_
  rintro g100 s r hl hf
  refine Fg r.2.2.2.2.2.2.1 k22 (fun c101 k22 => ?_) fun c101 k22 => ?_
  ·obtain ⟨o108, q, k23⟩ := bnk k22
   try clear h46
   refine Rq (fun g110 => [B_ 4 o108]) hl hf q ?_
   rintro g110 s r hl hf
   cases oK k23
   exact ⟨Or.inr rfl, hl, AU (AO r.1)⟩
  obtain ⟨v111, h112, k24⟩ := bnk k22
  obtain ⟨v113, h114, k25⟩ := bnk k24
  refine Ra hl hf ?_
  rintro g115 s r hl hf
  refine Rx (fun g121 => [B_ 183 (if (decide (v94.2 = 0)) then (if (decide (v97.2 = 0)) then (if (decide (v113.2 = 0)) then (if (decide (v94.1 = v113.1)) then (!(decide (v97.1.len = y62.len))) else true) else true) else true) else true)]) hl hf ?_
  rintro g121 s r hl hf
  refine Fg r.2.2.1 k25 (fun c122 k25 => ?_) fun c122 k25 => ?_
  ·refine Ra hl hf ?_
   rintro g123 s r hl hf
   cases oK k25
   exact ⟨Or.inr rfl, hl, AU (AO r.1)⟩
  refine Ra hl hf ?_
  rintro g124 s r hl hf
  refine blk ?_
  obtain ⟨o127, l128, k26⟩ := bnk k25
  refine BG (f := FG y62 v97) (E := fun (x : Int) s => Dn [(12, .v (Sl.lv y62)), E_ 18 v97.1, I_ 22 x] s ∧ s.low = low ∧ NoB Et s) (Q := fun (o : ((Bool) ⊕ (Unit))) j s => match o with | .inl w126 => j = .ret ∧ FnJ MJ.1 low (.d (.bool w126)) .ret s | .inr _ => j = .exit 4 ∧ Dn [] s ∧ s.low = low ∧ NoB Et s) l128 ?_ ⟨r, hl, hf⟩ ?_
  ·rintro x125 s out ⟨r, hl, hf⟩ k27
   unfold FG at k27
   refine Ra hl hf ?_
   rintro g129 s r hl hf
   refine Fg r.2.2.2.1 k27 (fun c130 k27 => ?_) fun c130 k27 => ?_
   ·refine blk ?_
    obtain ⟨v131, h132, k28⟩ := bnk k27
    obtain ⟨v133, h134, k29⟩ := bnk k28
    refine Ra hl hf ?_
    rintro g135 s r hl hf
    refine RG r.2.2.2.1 k29 (fun c136 k29 => ?_) fun c136 k29 => ?_
    ·refine Ra hl hf ?_
     rintro g137 s r hl hf
     obtain rfl := oK k29
     exact ⟨rfl, r, hl, hf⟩
    refine Ra hl hf ?_
    rintro g138 s r hl hf
    obtain rfl := oK k29
    exact ⟨by decide, ⟨rfl, ⟨Or.inr rfl, hl, AU (AO r.1)⟩⟩⟩
   obtain rfl := oK k27
   exact ⟨by decide, ⟨rfl, trivial, hl, hf⟩⟩
  intro j s hq
  rcases o127 with w126 | _
  ·try dsimp only at k26 hq
   obtain ⟨rfl, hq⟩ := hq
   cases oK k26
   exact hq
  try dsimp only at k26 hq
  obtain ⟨rfl, -, hl, hf⟩ := hq
  obtain ⟨v139, h140, k30⟩ := bnk k26
  try clear h46
  refine Ra hl hf ?_
  rintro g141 s r hl hf
  cases oK k30
  exact ⟨Or.inr rfl, hl, AU (AO r.1)⟩
 obtain ⟨v142, h143, k31⟩ := bnk k1
 try clear h46
 try clear h140
 refine Ra hl hf ?_
 rintro g144 s r hl hf
 cases oK k31
 exact ⟨Or.inr rfl, hl, AU (AO r.1)⟩
def se := fun a0 a1 => Cq.mk (@P7 a0 a1)
theorem ZD {a0 : BenchBook} {r : ((Sl AC) × Int)} (k0 : Jg a0 = some r) : Fin zL 18 [Enc.enc a0] (Enc.enc r) := by
 unfold Jg at k0; replace k0 := kq k0
 refine fnN cj bg ?_
 rintro low s r hl hf
 have q12 := @GR
 have q13 := @Jc
 refine Ra hl hf ?_
 rintro g1 s r hl hf
 obtain ⟨v2, h3, k1⟩ := bnk k0
 refine Ra hl hf ?_
 rintro g4 s r hl hf
 refine Ra hl hf ?_
 rintro g5 s r hl hf
 refine RG r.2.2.1 k1 (fun c6 k1 => ?_) fun c6 k1 => ?_
 ·obtain ⟨v7, h8, k2⟩ := bnk k1
  refine Ra hl hf ?_
  rintro g9 s r hl hf
  refine Ra hl hf ?_
  rintro g10 s r hl hf
  cases oK k2
  exact ⟨Or.inr rfl, hl, Bn (AO r.1) (AO r.2.1)⟩
 refine Ra hl hf ?_
 rintro g11 s r hl hf
 cases oK k1
 exact ⟨Or.inr rfl, hl, Bn (AO r.1) (AO r.2.1)⟩
def dc := fun a0 => Cq.mk (@ZD a0)
theorem dG {a0 : BenchBook} {a1 : Int} {r : (Int × Int)} (k0 : LS a0 a1 = some r) : Fin zL 20 [Enc.enc a0, .int a1] (Enc.enc r) := by
 unfold LS at k0; replace k0 := kq k0
 refine fnN OZ Un ?_
 rintro low s r hl hf
 have q28 := @GR
 have q29 := @HW
 have q30 := @FZ
 have q31 := @Oc
 refine Ra hl hf ?_
 rintro g1 s r hl hf
 obtain ⟨v2, h3, k1⟩ := bnk k0
 refine Ra hl hf ?_
 rintro g4 s r hl hf
 refine Ra hl hf ?_
 rintro g5 s r hl hf
 refine RG r.2.2.2.2.1 k1 (fun c6 k1 => ?_) fun c6 k1 => ?_
 ·obtain ⟨v7, h8, k2⟩ := bnk k1
  refine Ra hl hf ?_
  rintro g9 s r hl hf
  refine blk ?_
  obtain ⟨o12, l13, k3⟩ := bnk k2
  refine BG (f := F9 a1 v2 v7) (E := fun (x : Int) s => Dn [I_ 1 a1, C_ 6 (g4 + 1 + 1 + 1 + 1 + 1 + 1 + 1 + 1) v2.1, I_ 28 v7.Parts.len, I_ 29 x] s ∧ s.low = low ∧ NoB OZ s) (Q := fun (o : ((Int × Int) ⊕ (Unit))) j s => match o with | .inl w11 => j = .ret ∧ FnJ Un.1 low (.d (Enc.enc w11)) .ret s | .inr _ => j = .exit 0 ∧ Dn [C_ 6 (g4 + 1 + 1 + 1 + 1 + 1 + 1 + 1 + 1) v2.1] s ∧ s.low = low ∧ NoB OZ s) l13 ?_ ⟨r, hl, hf⟩ ?_
  ·rintro x10 s out ⟨r, hl, hf⟩ k4
   unfold F9 at k4
   refine Ra hl hf ?_
   rintro g14 s r hl hf
   refine Fg r.2.2.2.2.1 k4 (fun c15 k4 => ?_) fun c15 k4 => ?_
   ·refine blk <| Ra hl hf ?_
    rintro g16 s r hl hf
    obtain ⟨v17, h18, k5⟩ := bnk k4
    obtain ⟨v19, h20, k6⟩ := bnk k5
    refine Ra hl hf ?_
    rintro g21 s r hl hf
    refine Ra hl hf ?_
    rintro g22 s r hl hf
    refine RG r.2.2.2.2.2.1 k6 (fun c23 k6 => ?_) fun c23 k6 => ?_
    ·refine Ra hl hf ?_
     rintro g24 s r hl hf
     obtain rfl := oK k6
     exact ⟨rfl, r, hl, hf⟩
    refine Ra hl hf ?_
    rintro g25 s r hl hf
    obtain rfl := oK k6
    exact ⟨by decide, ⟨rfl, ⟨Or.inr rfl, hl, Bn (AO r.1) (AO r.2.1)⟩⟩⟩
   obtain rfl := oK k4
   exact ⟨by decide, ⟨rfl, ⟨r.2.1, trivial⟩, hl, hf⟩⟩
  intro j s hq
  rcases o12 with w11 | _
  ·try dsimp only at k3 hq
   obtain ⟨rfl, hq⟩ := hq
   cases oK k3
   exact hq
  try dsimp only at k3 hq
  obtain ⟨rfl, r, hl, hf⟩ := hq
  refine Ra hl hf ?_
  rintro g26 s r hl hf
  cases oK k3
  exact ⟨Or.inr rfl, hl, Bn (AO r.1) (AO r.2.1)⟩
 refine Ra hl hf ?_
 rintro g27 s r hl hf
 cases oK k1
 exact ⟨Or.inr rfl, hl, Bn (AO r.1) (AO r.2.1)⟩
def fa := fun a0 a1 => Cq.mk (@dG a0 a1)
theorem ZP {a0 : VoiceBook} {a1 : (Ar 4 Int)} {r : Bool} (k0 : MX a0 a1 = some r) : Fin zL 4 [Enc.enc a0, Enc.enc a1] (.bool r) := by
 unfold MX at k0; replace k0 := kq k0
 refine fnN L0 cb ?_
 rintro low s r hl hf
 have q129 := @QZ
 have q130 := @fa
 have q131 := @Uf
 have q132 := @dc
 have q133 := @SJ
 have q134 := @Oy
 have q135 := @OM
 have q136 := @R9
 have q137 := @TP
 have q138 := @SO
 have q139 := @Oj
 have q140 := @Uk
 refine Ra hl hf ?_
 rintro g1 s r hl hf
 obtain ⟨v2, h3, k1⟩ := bnk k0
 refine Ra hl hf ?_
 rintro g4 s r hl hf
 refine RG r.2.2.1 k1 (fun c5 k1 => ?_) fun c5 k1 => ?_
 ·obtain ⟨v6, h7, k2⟩ := bnk k1
  obtain ⟨v8, h9, k3⟩ := bnk k2
  obtain ⟨v10, h11, k4⟩ := bnk k3
  obtain ⟨v12, h13, k5⟩ := bnk k4
  obtain ⟨v14, h15, k6⟩ := bnk k5
  obtain ⟨v16, h17, k7⟩ := bnk k6
  obtain ⟨v18, h19, k8⟩ := bnk k7
  have q21 := ES h7
  have q22 := C0 h7 rfl rfl
  have q23 := ES h11
  have q24 := C0 h11 rfl rfl
  have q25 := ES h13
  have q26 := C0 h13 rfl rfl
  have q27 := ES h17
  have q28 := C0 h17 rfl rfl
  refine Ra hl hf ?_
  rintro g20 s r hl hf
  obtain ⟨v29, h30, k9⟩ := bnk k8
  refine Ra hl hf ?_
  rintro g31 s r hl hf
  obtain ⟨v32, h33, k10⟩ := bnk k9
  refine Ra hl hf ?_
  rintro g34 s r hl hf
  obtain ⟨v35, h36, k11⟩ := bnk k10
  refine Ra hl hf ?_
  rintro g37 s r hl hf
  obtain ⟨v38, h39, k12⟩ := bnk k11
  refine Ra hl hf ?_
  rintro g40 s r hl hf
  obtain ⟨v41, h42, k13⟩ := bnk k12
  refine Ra hl hf ?_
  rintro g43 s r hl hf
  obtain ⟨v44, h45, k14⟩ := bnk k13
  refine Ra hl hf ?_
  rintro g46 s r hl hf
  obtain ⟨o58, q, k15⟩ := bnk k14
  refine Rq (fun g60 => [B_ 108 o58]) hl hf q ?_
  rintro g60 s r hl hf
  refine Fg r.2.2.2.2.2.2.1 k15 (fun c61 k15 => ?_) fun c61 k15 => ?_
  ·refine Ra hl hf ?_
   rintro g62 s r hl hf
   cases oK k15
   exact ⟨Or.inr rfl, hl, AU (AO r.1)⟩
  refine Ra hl hf ?_
  rintro g63 s r hl hf
  refine Ra hl hf ?_
  rintro g64 s r hl hf
  refine blk ?_
  obtain ⟨o68, l69, k16⟩ := bnk k15
  refine BG (f := EN v18 v32) (E := fun (x : (Sl Int) × Int) s => Dn [I_ 7 v18, E_ 9 v32.1, E_ 11 v35.1, E_ 13 v38.1, I_ 15 v41.1, I_ 16 v41.2, (19, .v (Sl.lv x.1)), I_ 20 x.2] s ∧ s.low = low ∧ NoB L0 s) (Q := fun (y67 : (Sl Int)) j s => j = .exit 0 ∧ Dn [E_ 9 v32.1, E_ 11 v35.1, E_ 13 v38.1, I_ 15 v41.1, I_ 16 v41.2, (19, .v (Sl.lv y67))] s ∧ s.low = low ∧ NoB L0 s) l69 ?_ ⟨r, hl, hf⟩ ?_
  ·rintro ⟨x65, x66⟩ s out ⟨r, hl, hf⟩ k17
   dsimp only at r
   simp only [EN] at k17
   refine Ra hl hf ?_
   rintro g70 s r hl hf
   refine Fg r.2.2.2.2.2.2.2.2.1 k17 (fun c71 k17 => ?_) fun c71 k17 => ?_
   ·refine blk ?_
    obtain ⟨v72, h73, k18⟩ := bnk k17
    refine Ra hl hf ?_
    rintro g74 s r hl hf
    refine RG r.2.2.2.2.2.2.2.2.1 k18 (fun c75 k18 => ?_) fun c75 k18 => ?_
    ·refine Ra hl hf ?_
     rintro g76 s r hl hf
     obtain rfl := oK k18
     exact ⟨rfl, r, hl, hf⟩
    obtain ⟨v77, h78, k19⟩ := bnk k18
    try clear h73
    obtain ⟨v79, h80, k20⟩ := bnk k19
    have q82 := Es (sz := 1) (x := x65) (y := (Sl.cold [v77] : Sl Int)) rfl rfl h80
    refine Ra hl hf ?_
    rintro g81 s r hl hf
    refine Ra hl hf ?_
    rintro g83 s r hl hf
    obtain rfl := oK k20
    exact ⟨rfl, r, hl, hf⟩
   obtain rfl := oK k17
   exact ⟨by decide, ⟨rfl, ⟨r.2.1, r.2.2.1, r.2.2.2.1, r.2.2.2.2.1, r.2.2.2.2.2.1, r.2.2.2.2.2.2.1, trivial⟩, hl, hf⟩⟩
  intro j s hq
  obtain ⟨y67, rfl⟩ : ∃ x, x = o68 := ⟨_, rfl⟩
  try dsimp only at k16 hq
  obtain ⟨rfl, r, hl, hf⟩ := hq
  obtain ⟨o88, q, k21⟩ := bnk k16
  refine Rq (fun g90 => [B_ 146 o88]) hl hf q ?_
  rintro g90 s r hl hf
  refine Fg r.2.2.2.1 k21 (fun c91 k21 => ?_) fun c91 k21 => ?_
  ·refine Ra hl hf ?_
   rintro g92 s r hl hf
   cases oK k21
   exact ⟨Or.inr rfl, hl, AU (AO r.1)⟩
  refine Ra hl hf ?_
  rintro g93 s r hl hf
  refine Fg r.2.2.2.1 k21 (fun c94 k21 => ?_) fun c94 k21 => ?_
  ·obtain ⟨o98, q, k22⟩ := bnk k21
   refine Rq (fun g100 => [B_ 4 o98]) hl hf q ?_
   rintro g100 s r hl hf
   cases oK k22
   exact ⟨Or.inr rfl, hl, AU (AO r.1)⟩
  obtain ⟨o109, q, k23⟩ := bnk k21
  refine Rq (fun g111 => [B_ 177 o109]) hl hf q ?_
  rintro g111 s r hl hf
  refine Fg r.2.2.1 k23 (fun c112 k23 => ?_) fun c112 k23 => ?_
  ·refine Ra hl hf ?_
   rintro g113 s r hl hf
   cases oK k23
   exact ⟨Or.inr rfl, hl, AU (AO r.1)⟩
  obtain ⟨o122, q, k24⟩ := bnk k23
  have q124 := @Zh
  refine Rq (fun g125 => [B_ 4 o122]) hl hf q ?_
  rintro g125 s r hl hf
  cases oK k24
  exact ⟨Or.inr rfl, hl, AU (AO r.1)⟩
 obtain ⟨v126, h127, k25⟩ := bnk k1
 refine Ra hl hf ?_
 rintro g128 s r hl hf
 cases oK k25
 exact ⟨Or.inr rfl, hl, AU (AO r.1)⟩
def rH := fun a0 a1 => Cq.mk (@ZP a0 a1)
end Go.Lf
