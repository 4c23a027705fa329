/- A part of the proof. -/
import Derived.Test.YtohgomfnigdaoaaDoory20
import Derived.Test.YtohgomfnigdaoaaDoory22
import Derived.Test.YtohgomfnigdaoaaDoory48
set_option linter.all false
set_option maxHeartbeats 9999999
namespace Go.Lf
open Go
theorem MO {low : List Fr} {a0 : (Sl (Sl (Ar 5 Int)))} {r : Int} (k0 : CS a0 = some r) : LW zL 85 [.d (Enc.enc a0), .d (.fn 69 [] [])] low (.d (.int r)) := by
 unfold CS at k0; replace k0 := kq k0
 refine ir Gj I6 ?_
 rintro s r hl hf
 refine Ra hl hf ?_
 rintro g1 s r hl hf
 refine Ra hl hf ?_
 rintro g2 s r hl hf
 refine blk ?_
 obtain ⟨o5, l6, k1⟩ := bnk k0
 refine BG (f := BL a0) (E := fun (x : Int) s => Dn [E_ 0 a0, (1, .v (.d (.fn 69 [] []))), I_ 7 a0.len, I_ 8 x] s ∧ s.low = low ∧ NoB Gj s) (Q := fun (o : ((Int) ⊕ (Unit))) j s => match o with | .inl w4 => j = .ret ∧ FnJ I6.1 low (.d (.int w4)) .ret s | .inr _ => j = .exit 0 ∧ Dn [] s ∧ s.low = low ∧ NoB Gj s) l6 ?_ ⟨r, hl, hf⟩ ?_
 ·rintro x3 s out ⟨r, hl, hf⟩ k2
  unfold BL at k2
  refine Ra hl hf ?_
  rintro g7 s r hl hf
  refine Fg r.2.2.2.2.1 k2 (fun c8 k2 => ?_) fun c8 k2 => ?_
  ·refine blk <| Ra hl hf ?_
   rintro g9 s r hl hf
   obtain ⟨v10, h11, k3⟩ := bnk k2
   obtain ⟨c12, hc12⟩ := Il (LP := zL) (ds := [Enc.enc v10]) (Hg v10); simp only [List.map_cons, List.map_nil] at hc12
   have q14 := @hc12
   refine Ra hl hf ?_
   rintro g13 s r hl hf
   refine Fg r.2.2.2.2.2.1 k3 (fun c15 k3 => ?_) fun c15 k3 => ?_
   ·refine Ra hl hf ?_
    rintro g16 s r hl hf
    obtain rfl := oK k3
    exact ⟨by decide, ⟨rfl, ⟨Or.inr rfl, hl, AU (AO r.1)⟩⟩⟩
   refine Ra hl hf ?_
   rintro g17 s r hl hf
   obtain rfl := oK k3
   exact ⟨rfl, r, hl, hf⟩
  obtain rfl := oK k2
  exact ⟨by decide, ⟨rfl, trivial, hl, hf⟩⟩
 intro j s hq
 rcases o5 with w4 | _
 ·try dsimp only at k1 hq
  obtain ⟨rfl, hq⟩ := hq
  cases oK k1
  exact hq
 try dsimp only at k1 hq
 obtain ⟨rfl, -, hl, hf⟩ := hq
 refine Ra hl hf ?_
 rintro g18 s r hl hf
 cases oK k1
 exact ⟨Or.inr rfl, hl, AU (AO r.1)⟩
theorem KB {low : List Fr} {a0 : (Sl (Sl (Ar 5 Int)))} {r : Bool} (k0 : Bf a0 = some r) : LW zL 68 [.d (Enc.enc a0), .d (.fn 69 [] [])] low (.d (.bool r)) := by
 unfold Bf at k0; replace k0 := kq k0
 refine ir NN M1 ?_
 rintro s r hl hf
 refine Ra hl hf ?_
 rintro g1 s r hl hf
 obtain ⟨v2, h3, k1⟩ := bnk k0
 have f4 : ∀ (e : Env) (c : Nat), (om zL).call 85 [.d (Enc.enc a0), .d (.fn 69 [] [])] (low ++ [⟨e, none⟩]) c = some (.d (.int (v2)), low ++ [⟨e, none⟩], TU zL 85 [.d (Enc.enc a0), .d (.fn 69 [] [])] (low ++ [⟨e, none⟩]) c) := fun e c => LW.om (MO h3) c
 have q6 := @f4
 refine Ra hl hf ?_
 rintro g5 s r hl hf
 cases oK k1
 exact ⟨Or.inr rfl, hl, AU (AO r.1)⟩
theorem Pn {a0 : AA} {r : Bool} (k0 : CE a0 = some r) : Fin zL 47 [Enc.enc a0] (.bool r) := by
 unfold CE at k0; replace k0 := kq k0
 refine fnN Qe Qu ?_
 rintro low s r hl hf
 refine Ra hl hf ?_
 rintro g1 s r hl hf
 obtain ⟨v2, h3, k1⟩ := bnk k0
 have q5 := LW.call (LP := zL) (ds := [Enc.enc a0.truths, .fn 69 [] []]) (KB h3)
 refine Ra hl hf ?_
 rintro g4 s r hl hf
 cases oK k1
 exact ⟨Or.inr rfl, hl, AU (AO r.1)⟩
def Jk := fun a0 => Cq.mk (@Pn a0)
theorem Y8 {a0 : VoiceBook} {r : (Bool × Int)} (k0 : F2 a0 = some r) : Fin zL 22 [Enc.enc a0] (Enc.enc r) := by
 unfold F2 at k0; replace k0 := kq k0
 refine fnN cU cV ?_
 rintro low s r hl hf
 have q14 := @JJ
 have q15 := @Jk
 refine Ra hl hf ?_
 rintro g1 s r hl hf
 obtain ⟨v2, h3, k1⟩ := bnk k0
 refine Ra hl hf ?_
 rintro g4 s r hl hf
 refine Ra hl hf ?_
 rintro g5 s r hl hf
 refine RG r.2.2.1 k1 (fun c6 k1 => ?_) fun c6 k1 => ?_
 ·obtain ⟨v7, h8, k2⟩ := bnk k1
  obtain ⟨v9, h10, k3⟩ := bnk k2
  have q12 := Fin.call (LP := zL) (ds := [Enc.enc a0, .nils]) (Jo h8)
  refine Ra hl hf ?_
  rintro g11 s r hl hf
  cases oK k3
  exact ⟨Or.inr rfl, hl, Bn (AO r.1) (AO r.2.1)⟩
 refine Ra hl hf ?_
 rintro g13 s r hl hf
 cases oK k1
 exact ⟨Or.inr rfl, hl, Bn (AO r.1) (AO r.2.1)⟩
def TA := fun a0 => Cq.mk (@Y8 a0)
theorem bA (a0 : Int) (a1 : Int) (a2 : Int) : Fin zL 24 [.int a0, .int a1, .int a2] (.bool (CU a0 a1 a2)) := by
 refine fnN hZ hU ?_
 rintro low s r hl hf
 refine Ra hl hf ?_
 rintro g1 s r hl hf
 refine Rx (fun g4 => [B_ 6 ((decide (a1 ≤ a0)) && (decide (a0 ≤ a2)))]) hl hf ?_
 rintro g4 s r hl hf
 exact ⟨Or.inr rfl, hl, AU (AO r.1)⟩
def VE := fun a0 a1 a2 => (bA a0 a1 a2).call
theorem ZX {a0 : VoiceBook} {r : Bool} (k0 : IG a0 = some r) : Fin zL 5 [Enc.enc a0] (.bool r) := by
 unfold IG at k0; replace k0 := kq k0
 refine fnN bE dh ?_
 rintro low s r hl hf
 have q14 := @VE
 have q15 := @JJ
 have q16 := @TA
 refine Ra hl hf ?_
 rintro g1 s r hl hf
 obtain ⟨v2, h3, k1⟩ := bnk k0
 refine Ra hl hf ?_
 rintro g4 s r hl hf
 obtain ⟨o11, q, k2⟩ := bnk k1
 refine Rq (fun g13 => [B_ 2 o11]) hl hf q ?_
 rintro g13 s r hl hf
 cases oK k2
 exact ⟨Or.inr rfl, hl, AU (AO r.1)⟩
def SO := fun a0 => Cq.mk (@ZX a0)
theorem cy {a0 : Int} {a1 : Int} {r : Int} (k0 : F8 a0 a1 = some r) : Fin zL 8 [.int a0, .int a1] (.int r) := by
 unfold F8 at k0; replace k0 := kq k0
 refine fnN fH fX ?_
 rintro low s r hl hf
 refine Ra hl hf ?_
 rintro g1 s r hl hf
 refine Ra hl hf ?_
 rintro g2 s r hl hf
 refine Fg r.2.2.1 k0 (fun c3 k0 => ?_) fun c3 k0 => ?_
 ·refine Ra hl hf ?_
  rintro g4 s r hl hf
  cases oK k0
  exact ⟨Or.inr rfl, hl, AU (AO r.1)⟩
 obtain ⟨v5, h6, k1⟩ := bnk k0
 have q8 := rE h6
 refine Ra hl hf ?_
 rintro g7 s r hl hf
 refine Ra hl hf ?_
 rintro g9 s r hl hf
 refine Fg r.2.2.1 k1 (fun c10 k1 => ?_) fun c10 k1 => ?_
 ·refine Ra hl hf ?_
  rintro g11 s r hl hf
  refine Ra hl hf ?_
  rintro g12 s r hl hf
  cases oK k1
  exact ⟨Or.inr rfl, hl, AU (AO r.1)⟩
 refine Ra hl hf ?_
 rintro g13 s r hl hf
 cases oK k1
 exact ⟨Or.inr rfl, hl, AU (AO r.1)⟩
def OM := fun a0 a1 => Cq.mk (@cy a0 a1)
theorem bR {a0 : (Sl Int)} {a1 : Int} {r : (Sl Int)} (k0 : JR a0 a1 = some r) : Fin zL 7 [Enc.enc a0, .int a1] (Enc.enc r) := by
 unfold JR at k0; replace k0 := kq k0
 refine fnN iG iQ ?_
 rintro low s r hl hf
 refine Ra hl hf ?_
 rintro g1 s r hl hf
 obtain ⟨v2, h3, k1⟩ := bnk k0
 obtain ⟨v4, h5, k2⟩ := bnk k1
 have q7 := Es (sz := 1) (x := (Sl.hot [] : Sl Int)) (y := a0) rfl rfl h3
 have q8 := Es (sz := 1) (x := v2) (y := (Sl.cold [a1] : Sl Int)) rfl rfl h5
 refine Ra hl hf ?_
 rintro g6 s r hl hf
 cases oK k2
 exact ⟨Or.inr rfl, hl, AU (cF r.1)⟩
def eQ := fun a0 a1 => Cq.mk (@bR a0 a1)
theorem Xt (a0 : Int) (a1 : Int) : Fin zL 26 [.int a0, .int a1] (Enc.enc (Bt a0 a1)) := by
 refine fnN Yk ZR ?_
 rintro low s r hl hf
 have q2 := @qh
 refine Ra hl hf ?_
 rintro g1 s r hl hf
 have q4 := @Uh
 refine Ra hl hf ?_
 rintro g3 s r hl hf
 exact ⟨Or.inr rfl, hl, AU (EG r.1 rfl)⟩
def Kr := fun a0 a1 => (Xt a0 a1).call
theorem ZO {a0 : Int} {a1 : Int} {r : BS} (k0 : IL a0 a1 = some r) : Fin zL 9 [.int a0, .int a1] (Enc.enc r) := by
 unfold IL at k0; replace k0 := kq k0
 refine fnN cG cn ?_
 rintro low s r hl hf
 have q9 := @Kr
 have q10 := @OM
 have q2 := @qh
 refine Ra hl hf ?_
 rintro g1 s r hl hf
 obtain ⟨v3, h4, k1⟩ := bnk k0
 refine Ra hl hf ?_
 rintro g5 s r hl hf
 obtain ⟨v6, h7, k2⟩ := bnk k1
 refine Ra hl hf ?_
 rintro g8 s r hl hf
 cases oK k2
 exact ⟨Or.inr rfl, hl, AU (EG r.1 rfl)⟩
def TP := fun a0 a1 => Cq.mk (@ZO a0 a1)
theorem bW (a0 : Int) : Fin zL 50 [.int a0] (Enc.enc (Hw a0)) := by
 refine fnN iW fZ ?_
 rintro low s r hl hf
 have q2 := @qh
 refine Ra hl hf ?_
 rintro g1 s r hl hf
 have q4 := @Uh
 refine Ra hl hf ?_
 rintro g3 s r hl hf
 exact ⟨Or.inr rfl, hl, AU (EG r.1 rfl)⟩
def gu := fun a0 => (bW a0).call
theorem ZC {r : VoiceBook} (k0 : E1 = some r) : Fin zL 25 [] (Enc.enc r) := by
 unfold E1 at k0; replace k0 := kq k0
 refine fnN M3 bL ?_
 rintro low s - hl hf
 have q27 := @gu
 have q2 := @ig
 refine Ra hl hf ?_
 rintro g1 s r hl hf
 have q4 := @Ph
 refine Ra hl hf ?_
 rintro g3 s r hl hf
 refine Ra hl hf ?_
 rintro g5 s r hl hf
 refine blk ?_
 obtain ⟨o9, l10, k1⟩ := bnk k0
 refine BG (f := IS) (E := fun (x : VoiceBook × Int) s => Dn [C_ 0 g1 (VoiceBook.mk (Sl.nil : (Sl AL)) 0 (Sl.nil : (Sl AI))), (1, .box (g3 + 1) (B5 x.1)), I_ 2 x.2] s ∧ s.low = low ∧ NoB M3 s) (Q := fun (y8 : VoiceBook) j s => j = .exit 0 ∧ Dn [C_ 0 g1 (VoiceBook.mk (Sl.nil : (Sl AL)) 0 (Sl.nil : (Sl AI))), (1, .box (g3 + 1) (B5 y8))] s ∧ s.low = low ∧ NoB M3 s) l10 ?_ ⟨⟨r.1, (rC r.2.1 (TX (VoiceBook.mk (Sl.nil : (Sl AL)) 2 (Sl.nil : (Sl AI))))), r.2.2.1, trivial⟩, hl, hf⟩ ?_
 ·rintro ⟨x6, x7⟩ s out ⟨r, hl, hf⟩ k2
  dsimp only at r
  simp only [IS] at k2
  refine Ra hl hf ?_
  rintro g11 s r hl hf
  refine Fg r.2.2.2.1 k2 (fun c12 k2 => ?_) fun c12 k2 => ?_
  ·refine blk ?_
   obtain ⟨v13, h14, k3⟩ := bnk k2
   obtain ⟨v15, h16, k4⟩ := bnk k3
   obtain ⟨v17, h18, k5⟩ := bnk k4
   have q20 := @O3
   have q22 := Es (sz := 11) (x := x6.Boys.unf) (y := (Sl.cold [(AL.mk (Hw v13) (Hw v15) (BS.mk 0 0) (BS.mk 0 0) 0 (Hw 9))] : Sl AL)) rfl rfl h18
   refine Ra hl hf ?_ (h := by intro c; simp only [(KX (LP := zL) (j := low.length) (t := 1) (gb := g3 + 1) (off := 0) (cs := (B5 x6)) (cs' := (B5 (VoiceBook.mk x6.Boys.cool x6.Weeks x6.Trials))) (x := x6.Boys) (hx := rfl) (hc := PZ x6)), (PY (cg h18 (by simp))), rt, ps, nob hf, *, reduceCtorEq, Nat.reduceEqDiff, Nat.reduceAdd, Nat.reduceMul] <;> rfl)
   rintro g19 s r hl hf
   refine Ra hl hf ?_
   rintro g24 s r hl hf
   obtain rfl := oK k5
   exact ⟨rfl, r, hl, hf⟩
  obtain rfl := oK k2
  exact ⟨by decide, ⟨rfl, ⟨r.1, r.2.1, trivial⟩, hl, hf⟩⟩
 intro j s hq
 obtain ⟨y8, rfl⟩ : ∃ x, x = o9 := ⟨_, rfl⟩
 try dsimp only at k1 hq
 obtain ⟨rfl, r, hl, hf⟩ := hq
 have q26 := @MH
 refine Ra hl hf ?_
 rintro g25 s r hl hf
 cases oK k1
 exact ⟨Or.inr rfl, hl, AU (EG r.1 rfl)⟩
def cP := Cq.mk (@ZC)
theorem ZL {a0 : VoiceBook} {a1 : Bool} {r : (AA × Int)} (k0 : Bi a0 a1 = some r) : Fin zL 41 [Enc.enc a0, .bool a1] (Enc.enc r) := by
 unfold Bi at k0; replace k0 := kq k0
 refine fnN cc bw ?_
 rintro low s r hl hf
 have q24 := @JJ
 have q25 := @Jk
 have q2 := @OL
 refine Ra hl hf ?_
 rintro g1 s r hl hf
 obtain ⟨v3, h4, k1⟩ := bnk k0
 refine Ra hl hf ?_
 rintro g5 s r hl hf
 refine Ra hl hf ?_
 rintro g6 s r hl hf
 refine RG r.2.2.2.2.1 k1 (fun c7 k1 => ?_) fun c7 k1 => ?_
 ·refine Ra hl hf ?_
  rintro g8 s r hl hf
  refine RG r.2.2.1 k1 (fun c9 k1 => ?_) fun c9 k1 => ?_
  ·obtain ⟨v10, h11, k2⟩ := bnk k1
   have q13 := Fin.call (LP := zL) (ds := [Enc.enc a0, .nils]) (Jo h11)
   refine Ra hl hf ?_
   rintro g12 s r hl hf
   obtain ⟨v14, h15, k3⟩ := bnk k2
   refine Ra hl hf ?_
   rintro g16 s r hl hf
   refine RG r.2.2.1 k3 (fun c17 k3 => ?_) fun c17 k3 => ?_
   ·refine Ra hl hf ?_
    rintro g18 s r hl hf
    cases oK k3
    exact ⟨Or.inr rfl, hl, Bn (EG r.1 rfl) (AO r.2.1)⟩
   refine Ra hl hf ?_
   rintro g19 s r hl hf
   cases oK k3
   exact ⟨Or.inr rfl, hl, Bn (EG r.1 rfl) (AO r.2.1)⟩
  have q21 := @S9
  refine Ra hl hf ?_
  rintro g20 s r hl hf
  cases oK k1
  exact ⟨Or.inr rfl, hl, Bn (EG r.1 rfl) (AO r.2.1)⟩
 have q23 := @S9
 refine Ra hl hf ?_
 rintro g22 s r hl hf
 cases oK k1
 exact ⟨Or.inr rfl, hl, Bn (EG r.1 rfl) (AO r.2.1)⟩
def Rn := fun a0 a1 => Cq.mk (@ZL a0 a1)
theorem K7 {a0 : AA} {a1 : Int} {a2 : (Ar 5 Int)} {a3 : Int} {r : Int} (k0 : EP a0 a1 a2 a3 = some r) : Fin zL 81 [Enc.enc a0, .int a1, Enc.enc a2, .int a3] (.int r) := by
 unfold EP at k0; replace k0 := kq k0
 refine fnN Nc NZ ?_
 rintro low s r hl hf
 have q20 := @Md
 refine Ra hl hf ?_
 rintro g1 s r hl hf
 obtain ⟨v2, h3, k1⟩ := bnk k0
 obtain ⟨v4, h5, k2⟩ := bnk k1
 have q7 := ES h3
 have q8 := C0 h3 rfl rfl
 refine Ra hl hf ?_
 rintro g6 s r hl hf
 obtain ⟨v9, h10, k3⟩ := bnk k2
 obtain ⟨v11, h12, k4⟩ := bnk k3
 obtain ⟨v13, h14, k5⟩ := bnk k4
 have q16 := ES h10
 have q17 := C0 h10 rfl rfl
 have q18 := ES h12
 have q19 := C0 h12 rfl rfl
 refine Ra hl hf ?_
 rintro g15 s r hl hf
 cases oK k5
 exact ⟨Or.inr rfl, hl, AU (AO r.1)⟩
def ny := fun a0 a1 a2 a3 => Cq.mk (@K7 a0 a1 a2 a3)
theorem LA {a0 : AA} {a1 : Int} {a2 : (Ar 5 Int)} {a3 : Int} {a4 : Int} {r : Bool} (k0 : Dk a0 a1 a2 a3 a4 = some r) : Fin zL 65 [Enc.enc a0, .int a1, Enc.enc a2, .int a3, .int a4] (.bool r) := by
 unfold Dk at k0; replace k0 := kq k0
 refine fnN NY NU ?_
 rintro low s r hl hf
 have q22 := @ER
 refine Ra hl hf ?_
 rintro g1 s r hl hf
 obtain ⟨o11, q12, k1⟩ := bnk k0
 refine nE [B_ 10 o11] hl hf ?_ ?_
 ·by_cases c2 : (decide (Bc.key a2 = Bc.key (⟨[(-1), (-1), (-1), (-1), (-1)], rfl⟩ : (Ar 5 Int)))) = true
  ·rw [if_pos c2] at q12
   have e1 := oI q12
   simp only [rs, ps, JY, J3, hl, nob hf, r, Q0, c2, ← e1, reduceCtorEq, Nat.reduceEqDiff, Nat.reduceAdd]
  rw [if_neg c2] at q12
  have c2 := eq_false_of_ne_true c2
  obtain ⟨v3, h4, q19⟩ := bnd q12
  by_cases c5 : (decide (a3 < v3)) = true
  ·rw [if_pos c5] at q19
   obtain ⟨v6, h7, q20⟩ := bnd q19
   obtain ⟨v9, h10, q21⟩ := bnd q20
   have e1 := oI q21
   obtain ⟨c8, hc8⟩ := Il (LP := zL) (ds := [Enc.enc a0, .int a1, Enc.enc a2, .int a3]) (K7 h10); simp only [List.map_cons, List.map_nil] at hc8
   simp only [rs, ps, JY, J3, hl, nob hf, r, Q0, c2, (ES h4), (C0 h4 rfl rfl), c5, (ES h7), (C0 h7 rfl rfl), hc8, (J6 a4 v6 v9).call, ← e1, reduceCtorEq, Nat.reduceEqDiff, Nat.reduceAdd]
  rw [if_neg c5] at q19
  have c5 := eq_false_of_ne_true c5
  have e1 := oI q19
  simp only [rs, ps, JY, J3, hl, nob hf, r, Q0, c2, (ES h4), (C0 h4 rfl rfl), c5, ← e1, reduceCtorEq, Nat.reduceEqDiff, Nat.reduceAdd]
 rintro s r hl hf
 cases oK k1
 exact ⟨Or.inr rfl, hl, AU (AO r.1)⟩
def nw := fun a0 a1 a2 a3 a4 => Cq.mk (@LA a0 a1 a2 a3 a4)
theorem Qv {a0 : AA} {a1 : Int} {a2 : Int} {a3 : Int} {r : AY} (k0 : CV a0 a1 a2 a3 = some r) : Fin zL 45 [Enc.enc a0, .int a1, .int a2, .int a3] (Enc.enc r) := by
 unfold CV at k0; replace k0 := kq k0
 refine fnN Hf Rk ?_
 rintro low s r hl hf
 have q2 := @dk
 refine Ra hl hf ?_
 rintro g1 s r hl hf
 obtain ⟨v3, h4, k1⟩ := bnk k0
 have q6 := @VM
 refine Ra hl hf ?_
 rintro g5 s r hl hf
 have q8 := @KN
 have q9 := fun s ro => ci (n := 2) s ro a0.whole (Ab.mk a1 a2) (Sl.nil : (Sl (Ar 5 Int))) (.nils) rfl (by decide) rfl
 refine Ra hl hf ?_
 rintro g7 s r hl hf
 refine blk ?_
 obtain ⟨o13, l14, k2⟩ := bnk k1
 refine BG (f := BZ a0 a1 a2 a3) (E := fun (x : AY × Int) s => Dn [I_ 1 a1, I_ 2 a2, I_ 3 a3, C_ 4 g1 a0, C_ 8 (g1 + 1) (AY.mk 0 0), C_ 9 (g5 + 1 + 1 + 1 + 1 + 1 + 1 + 1) x.1, E_ 24 ((Mp.get a0.whole (Bc.key (Ab.mk a1 a2))).getD (Sl.nil : (Sl (Ar 5 Int)))), I_ 25 (((Mp.get a0.whole (Bc.key (Ab.mk a1 a2))).getD (Sl.nil : (Sl (Ar 5 Int)))).len), I_ 26 x.2] s ∧ s.low = low ∧ NoB Hf s) (Q := fun (y12 : AY) j s => j = .exit 0 ∧ Dn [C_ 4 g1 a0, C_ 8 (g1 + 1) (AY.mk 0 0), C_ 9 (g5 + 1 + 1 + 1 + 1 + 1 + 1 + 1) y12] s ∧ s.low = low ∧ NoB Hf s) l14 ?_ ⟨r, hl, hf⟩ ?_
 ·rintro ⟨x10, x11⟩ s out ⟨r, hl, hf⟩ k3
  dsimp only at r
  simp only [BZ] at k3
  refine Ra hl hf ?_
  rintro g15 s r hl hf
  refine Fg r.2.2.2.2.2.2.2.2.2.1 k3 (fun c16 k3 => ?_) fun c16 k3 => ?_
  ·refine blk ?_
   obtain ⟨v17, h18, k4⟩ := bnk k3
   refine Ra hl hf ?_
   rintro g19 s r hl hf
   obtain ⟨v21, h22, k5⟩ := bnk k4
   obtain ⟨c20, hc20⟩ := Il (LP := zL) (ds := [Enc.enc a0, .int a1, Enc.enc v17, .int a2, .int a3]) (LA h22); simp only [List.map_cons, List.map_nil] at hc20
   have q24 := @hc20
   refine Ra hl hf ?_
   rintro g23 s r hl hf
   refine Fg r.2.2.2.2.2.2.2.2.2.1 k5 (fun c25 k5 => ?_) fun c25 k5 => ?_
   ·refine Ra hl hf ?_
    rintro g26 s r hl hf
    refine Ra hl hf ?_
    rintro g27 s r hl hf
    obtain rfl := oK k5
    exact ⟨rfl, r, hl, hf⟩
   refine Ra hl hf ?_
   rintro g28 s r hl hf
   obtain rfl := oK k5
   exact ⟨rfl, r, hl, hf⟩
  obtain rfl := oK k3
  exact ⟨by decide, ⟨rfl, ⟨r.2.2.2.1, r.2.2.2.2.1, r.2.2.2.2.2.1, trivial⟩, hl, hf⟩⟩
 intro j s hq
 obtain ⟨y12, rfl⟩ : ∃ x, x = o13 := ⟨_, rfl⟩
 try dsimp only at k2 hq
 obtain ⟨rfl, r, hl, hf⟩ := hq
 refine Ra hl hf ?_
 rintro g29 s r hl hf
 cases oK k2
 exact ⟨Or.inr rfl, hl, AU (EG r.1 rfl)⟩
def KE := fun a0 a1 a2 a3 => Cq.mk (@Qv a0 a1 a2 a3)
theorem Jr (a0 : AY) : Fin zL 106 [Enc.enc a0] (.bool (DR a0)) := by
 refine fnN RP Rz ?_
 rintro low s r hl hf
 refine Ra hl hf ?_
 rintro g1 s r hl hf
 refine Ra hl hf ?_
 rintro g2 s r hl hf
 exact ⟨Or.inr rfl, hl, AU (AO r.1)⟩
def RI := fun a0 => (Jr a0).call
theorem cR {a0 : VoiceBook} {a1 : Int} {a2 : Int} {a3 : BS} {r : (Int × Int)} (k0 : GN a0 a1 a2 a3 = some r) : Fin zL 19 [Enc.enc a0, .int a1, .int a2, Enc.enc a3] (Enc.enc r) := by
 unfold GN at k0; replace k0 := kq k0
 refine fnN HA VC ?_
 rintro low s r hl hf
 have q44 := @Rn
 have q45 := @KE
 have q46 := @NB
 have q47 := @P3
 have q48 := @Kx
 have q49 := @RI
 refine Ra hl hf ?_
 rintro g1 s r hl hf
 obtain ⟨⟨o10, o11⟩, q, k1⟩ := bnk k0
 try dsimp only at k1
 refine Rq (fun g13 => [C_ 10 (g13 + 1 + 1 + 1 + 1 + 1 + 1 + 1 + 1 + 1 + 1 + 1 + 1 + 1 + 1 + 1 + 1 + 1) o10, I_ 11 o11]) hl hf q ?_
 rintro g13 s r hl hf
 refine Ra hl hf ?_
 rintro g14 s r hl hf
 refine RG r.2.2.2.2.2.2.1 k1 (fun c15 k1 => ?_) fun c15 k1 => ?_
 ·refine Ra hl hf ?_
  rintro g16 s r hl hf
  refine blk ?_
  obtain ⟨o19, l20, k2⟩ := bnk k1
  refine BG (f := DZ a0 a1 a2 a3 o10) (E := fun (x : Int) s => Dn [I_ 1 a1, I_ 2 a2, C_ 7 (g1 + 1) a3, C_ 10 (g13 + 1 + 1 + 1 + 1 + 1 + 1 + 1 + 1 + 1 + 1 + 1 + 1 + 1 + 1 + 1 + 1 + 1) o10, I_ 36 a0.Boys.len, I_ 37 x] s ∧ s.low = low ∧ NoB HA s) (Q := fun (o : ((Int × Int) ⊕ (Unit))) j s => match o with | .inl w18 => j = .ret ∧ FnJ VC.1 low (.d (Enc.enc w18)) .ret s | .inr _ => j = .exit 0 ∧ Dn [C_ 7 (g1 + 1) a3, C_ 10 (g13 + 1 + 1 + 1 + 1 + 1 + 1 + 1 + 1 + 1 + 1 + 1 + 1 + 1 + 1 + 1 + 1 + 1) o10] s ∧ s.low = low ∧ NoB HA s) l20 ?_ ⟨r, hl, hf⟩ ?_
  ·rintro x17 s out ⟨r, hl, hf⟩ k3
   unfold DZ at k3
   refine Ra hl hf ?_
   rintro g21 s r hl hf
   refine Fg r.2.2.2.2.2.2.1 k3 (fun c22 k3 => ?_) fun c22 k3 => ?_
   ·refine blk <| Ra hl hf ?_
    rintro g23 s r hl hf
    refine Ra hl hf ?_
    rintro g24 s r hl hf
    refine Fg r.2.2.2.2.2.2.2.1 k3 (fun c25 k3 => ?_) fun c25 k3 => ?_
    ·refine Ra hl hf ?_
     rintro g26 s r hl hf
     obtain rfl := oK k3
     exact ⟨rfl, r, hl, hf⟩
    refine Ra hl hf ?_
    rintro g27 s r hl hf
    refine blk ?_
    obtain ⟨o29, l30, k4⟩ := bnk k3
    refine BG (f := Da a2 a3 o10 x17) (E := fun (x : Int) s => Dn [I_ 1 a1, I_ 2 a2, C_ 7 (g1 + 1) a3, C_ 10 (g13 + 1 + 1 + 1 + 1 + 1 + 1 + 1 + 1 + 1 + 1 + 1 + 1 + 1 + 1 + 1 + 1 + 1) o10, I_ 12 x17, I_ 13 x, I_ 36 a0.Boys.len, I_ 37 x17] s ∧ s.low = low ∧ NoB HA s) (Q := fun (o : ((Unit) ⊕ (Unit))) j s => match o with | .inl _ => j = .exit 1 ∧ Dn [I_ 1 a1, I_ 2 a2, C_ 7 (g1 + 1) a3, C_ 10 (g13 + 1 + 1 + 1 + 1 + 1 + 1 + 1 + 1 + 1 + 1 + 1 + 1 + 1 + 1 + 1 + 1 + 1) o10, I_ 36 a0.Boys.len, I_ 37 x17] s ∧ s.low = low ∧ NoB HA s | .inr _ => j = .exit 2 ∧ Dn [C_ 7 (g1 + 1) a3, C_ 10 (g13 + 1 + 1 + 1 + 1 + 1 + 1 + 1 + 1 + 1 + 1 + 1 + 1 + 1 + 1 + 1 + 1 + 1) o10, I_ 12 x17] s ∧ s.low = low ∧ NoB HA s) l30 ?_ ⟨r, hl, hf⟩ ?_
    ·rintro x28 s out ⟨r, hl, hf⟩ k5
     unfold Da at k5
     refine Ra hl hf ?_
     rintro g31 s r hl hf
     refine Fg r.2.2.2.2.2.2.2.2.1 k5 (fun c32 k5 => ?_) fun c32 k5 => ?_
     ·refine blk ?_
      obtain ⟨v33, h34, k6⟩ := bnk k5
      have q37 := @xd
      refine Ra hl hf ?_ (h := by intro c; simp only [(show ∀ (cs : List DV) (o : Nat), TW 1 2 (.d (.fptr cs o)) (.d (.int 1)) = some (.d (.fptr cs (o + 1))) from fun _ _ => rfl), rt, ps, nob hf, *, reduceCtorEq, Nat.reduceEqDiff, Nat.reduceAdd, Nat.reduceMul] <;> rfl)
      rintro g35 s r hl hf
      refine RG r.2.2.2.2.2.2.2.2.1 k6 (fun c38 k6 => ?_) fun c38 k6 => ?_
      ·refine Ra hl hf ?_
       rintro g39 s r hl hf
       obtain rfl := oK k6
       exact ⟨rfl, r, hl, hf⟩
      obtain rfl := oK k6
      exact ⟨by decide, ⟨rfl, ⟨r.1, r.2.1, r.2.2.1, r.2.2.2.1, r.2.2.2.2.2.2.1, r.2.2.2.2.2.2.2.1, trivial⟩, hl, hf⟩⟩
     obtain rfl := oK k5
     exact ⟨by decide, ⟨rfl, ⟨r.2.2.1, r.2.2.2.1, r.2.2.2.2.1, trivial⟩, hl, hf⟩⟩
    intro j s hq
    rcases o29 with _ | _
    ·try dsimp only at k4 hq
     obtain ⟨rfl, r, hl, hf⟩ := hq
     refine Ra hl hf ?_
     rintro g40 s r hl hf
     obtain rfl := oK k4
     exact ⟨rfl, r, hl, hf⟩
    try dsimp only at k4 hq
    obtain ⟨rfl, r, hl, hf⟩ := hq
    refine Ra hl hf ?_
    rintro g41 s r hl hf
    obtain rfl := oK k4
    exact ⟨by decide, ⟨rfl, ⟨Or.inr rfl, hl, Bn (AO r.1) (AO r.2.1)⟩⟩⟩
   obtain rfl := oK k3
   exact ⟨by decide, ⟨rfl, ⟨r.2.2.1, r.2.2.2.1, trivial⟩, hl, hf⟩⟩
  intro j s hq
  rcases o19 with w18 | _
  ·try dsimp only at k2 hq
   obtain ⟨rfl, hq⟩ := hq
   cases oK k2
   exact hq
  try dsimp only at k2 hq
  obtain ⟨rfl, r, hl, hf⟩ := hq
  refine Ra hl hf ?_
  rintro g42 s r hl hf
  cases oK k2
  exact ⟨Or.inr rfl, hl, Bn (AO r.1) (AO r.2.1)⟩
 refine Ra hl hf ?_
 rintro g43 s r hl hf
 cases oK k1
 exact ⟨Or.inr rfl, hl, Bn (AO r.1) (AO r.2.1)⟩
def Uk := fun a0 a1 a2 a3 => Cq.mk (@cR a0 a1 a2 a3)
theorem bm {a0 : VoiceBook} {a1 : (Sl Int)} {a2 : (Sl BS)} {r : BenchBook} (k0 : CQ a0 a1 a2 = some r) : Fin zL 10 [Enc.enc a0, Enc.enc a1, Enc.enc a2] (Enc.enc r) := by
 unfold CQ at k0; replace k0 := kq k0
 refine fnN OC fN ?_
 rintro low s r hl hf
 have q2 := @je
 refine Ra hl hf ?_
 rintro g1 s r hl hf
 refine Ra hl hf ?_
 rintro g3 s r hl hf
 refine Ra hl hf ?_
 rintro g4 s r hl hf
 refine blk ?_
 obtain ⟨o8, l9, k1⟩ := bnk k0
 refine BG (f := Ew a1 a2) (E := fun (x : BenchBook × Int) s => Dn [E_ 1 a1, E_ 2 a2, C_ 6 (g1 + 1) (BenchBook.mk (VoiceBook.mk (Sl.nil : (Sl AL)) 0 (Sl.nil : (Sl AI))) (Sl.nil : (Sl AK)) 0), (7, .box (g3 + 1 + 1) (B0 x.1)), I_ 8 x.2] s ∧ s.low = low ∧ NoB OC s) (Q := fun (y7 : BenchBook) j s => j = .exit 0 ∧ Dn [C_ 6 (g1 + 1) (BenchBook.mk (VoiceBook.mk (Sl.nil : (Sl AL)) 0 (Sl.nil : (Sl AI))) (Sl.nil : (Sl AK)) 0), (7, .box (g3 + 1 + 1) (B0 y7))] s ∧ s.low = low ∧ NoB OC s) l9 ?_ ⟨⟨r.1, r.2.1, r.2.2.1, (rC r.2.2.2.1 (UK (BenchBook.mk a0 (Sl.nil : (Sl AK)) 3))), r.2.2.2.2.1, trivial⟩, hl, hf⟩ ?_
 ·rintro ⟨x5, x6⟩ s out ⟨r, hl, hf⟩ k2
  dsimp only at r
  simp only [Ew] at k2
  refine Ra hl hf ?_
  rintro g10 s r hl hf
  refine Fg r.2.2.2.2.2.1 k2 (fun c11 k2 => ?_) fun c11 k2 => ?_
  ·refine blk ?_
   obtain ⟨v12, h13, k3⟩ := bnk k2
   obtain ⟨v14, h15, k4⟩ := bnk k3
   obtain ⟨v16, h17, k5⟩ := bnk k4
   have q19 := @O3
   have q21 := Es (sz := 2) (x := x5.Pieces.unf) (y := (Sl.cold [(AK.mk v12 (Sl.cold [(A7.mk v14 1)] : Sl A7))] : Sl AK)) rfl rfl h17
   refine Ra hl hf ?_ (h := by intro c; simp only [(KX (LP := zL) (j := low.length) (t := 7) (gb := g3 + 1 + 1) (off := 3) (cs := (B0 x5)) (cs' := (B0 (BenchBook.mk x5.Voice x5.Pieces.cool x5.Most))) (x := x5.Pieces) (hx := rfl) (hc := Pv x5)), (PX (cg h17 (by simp))), rt, ps, nob hf, *, reduceCtorEq, Nat.reduceEqDiff, Nat.reduceAdd, Nat.reduceMul] <;> rfl)
   rintro g18 s r hl hf
   refine Ra hl hf ?_
   rintro g23 s r hl hf
   obtain rfl := oK k5
   exact ⟨rfl, r, hl, hf⟩
  obtain rfl := oK k2
  exact ⟨by decide, ⟨rfl, ⟨r.2.2.1, r.2.2.2.1, trivial⟩, hl, hf⟩⟩
 intro j s hq
 obtain ⟨y7, rfl⟩ : ∃ x, x = o8 := ⟨_, rfl⟩
 try dsimp only at k1 hq
 obtain ⟨rfl, r, hl, hf⟩ := hq
 have q25 := @MM
 refine Ra hl hf ?_
 rintro g24 s r hl hf
 cases oK k1
 exact ⟨Or.inr rfl, hl, AU (EG r.1 rfl)⟩
def Oj := fun a0 a1 a2 => Cq.mk (@bm a0 a1 a2)
theorem Wz (a0 : Int) (a1 : Int) (a2 : Int) : Fin zL 29 [.int a0, .int a1, .int a2] (.bool (AQ a0 a1 a2)) := by
 refine fnN ZT ZQ ?_
 rintro low s r hl hf
 refine Ra hl hf ?_
 rintro g1 s r hl hf
 refine Rx (fun g4 => [B_ 6 ((decide (a1 ≤ a0)) && (decide (a0 ≤ a2)))]) hl hf ?_
 rintro g4 s r hl hf
 exact ⟨Or.inr rfl, hl, AU (AO r.1)⟩
def Kp := fun a0 a1 a2 => (Wz a0 a1 a2).call
theorem Vr (a0 : BenchBook) (a1 : Int) : Fin zL 28 [Enc.enc a0, .int a1] (.bool (BM a0 a1)) := by
 refine fnN Xu Xx ?_
 rintro low s r hl hf
 have q3 := @Kp
 refine Ra hl hf ?_
 rintro g1 s r hl hf
 refine Ra hl hf ?_
 rintro g2 s r hl hf
 exact ⟨Or.inr rfl, hl, AU (AO r.1)⟩
def Oc := fun a0 a1 => (Vr a0 a1).call
theorem Zk {a0 : BenchBook} {r : Int} (k0 : G2 a0 = some r) : Fin zL 51 [Enc.enc a0] (.int r) := by
 unfold G2 at k0; replace k0 := kq k0
 refine fnN HU cp ?_
 rintro low s r hl hf
 have q46 := @Kp
 have q47 := @JJ
 refine Ra hl hf ?_
 rintro g1 s r hl hf
 obtain ⟨o6, q, k2⟩ := bnk k0
 refine Rq (fun g8 => [B_ 3 o6]) hl hf q ?_
 rintro g8 s r hl hf
 refine Ra hl hf ?_
 rintro g9 s r hl hf
 refine blk ?_
 obtain ⟨o13, l14, k3⟩ := bnk k2
 refine BG (f := Di a0) (E := fun (x : Bool × Int) s => Dn [C_ 1 g1 a0, B_ 3 x.1, E_ 24 a0.Pieces, I_ 25 a0.Pieces.len, I_ 26 x.2] s ∧ s.low = low ∧ NoB HU s) (Q := fun (y12 : Bool) j s => j = .exit 0 ∧ Dn [C_ 1 g1 a0, B_ 3 y12] s ∧ s.low = low ∧ NoB HU s) l14 ?_ ⟨r, hl, hf⟩ ?_
 ·rintro ⟨x10, x11⟩ s out ⟨r, hl, hf⟩ k4
  dsimp only at r
  simp only [Di] at k4
  refine Ra hl hf ?_
  rintro g15 s r hl hf
  refine Fg r.2.2.2.2.2.1 k4 (fun c16 k4 => ?_) fun c16 k4 => ?_
  ·refine blk ?_
   obtain ⟨v17, h18, k5⟩ := bnk k4
   refine Ra hl hf ?_
   rintro g19 s r hl hf
   refine Rx (fun g23 => [B_ 3 (x10 && ((AQ v17.Week 0 (W (a0.Voice.Weeks - 1))) && (AQ v17.Parts.len 1 3)))]) hl hf ?_
   rintro g23 s r hl hf
   refine Ra hl hf ?_
   rintro g24 s r hl hf
   refine blk ?_
   obtain ⟨o28, l29, k6⟩ := bnk k5
   refine BG (f := ET v17) (E := fun (x : Bool × Int) s => Dn [C_ 1 g1 a0, B_ 3 x.1, E_ 24 a0.Pieces, I_ 25 a0.Pieces.len, I_ 26 x11, E_ 47 v17.Parts, I_ 48 v17.Parts.len, I_ 49 x.2] s ∧ s.low = low ∧ NoB HU s) (Q := fun (y27 : Bool) j s => j = .exit 2 ∧ Dn [C_ 1 g1 a0, B_ 3 y27, E_ 24 a0.Pieces, I_ 25 a0.Pieces.len, I_ 26 x11] s ∧ s.low = low ∧ NoB HU s) l29 ?_ ⟨r, hl, hf⟩ ?_
   ·rintro ⟨x25, x26⟩ s out ⟨r, hl, hf⟩ k7
    dsimp only at r
    simp only [ET] at k7
    refine Ra hl hf ?_
    rintro g30 s r hl hf
    refine Fg r.2.2.2.2.2.2.2.2.1 k7 (fun c31 k7 => ?_) fun c31 k7 => ?_
    ·refine blk ?_
     obtain ⟨v32, h33, k8⟩ := bnk k7
     refine Ra hl hf ?_
     rintro g34 s r hl hf
     refine Rx (fun g39 => [B_ 3 (x25 && ((AQ v32.Notes.Low 0 v32.Notes.High) && ((decide (v32.Notes.High ≤ 40)) && (AQ v32.Many 1 3))))]) hl hf ?_
     rintro g39 s r hl hf
     refine Ra hl hf ?_
     rintro g40 s r hl hf
     obtain rfl := oK k8
     exact ⟨rfl, r, hl, hf⟩
    obtain rfl := oK k7
    exact ⟨by decide, ⟨rfl, ⟨r.1, r.2.1, r.2.2.1, r.2.2.2.1, r.2.2.2.2.1, trivial⟩, hl, hf⟩⟩
   intro j s hq
   obtain ⟨y27, rfl⟩ : ∃ x, x = o28 := ⟨_, rfl⟩
   try dsimp only at k6 hq
   obtain ⟨rfl, r, hl, hf⟩ := hq
   refine Ra hl hf ?_
   rintro g41 s r hl hf
   obtain rfl := oK k6
   exact ⟨rfl, r, hl, hf⟩
  obtain rfl := oK k4
  exact ⟨by decide, ⟨rfl, ⟨r.1, r.2.1, trivial⟩, hl, hf⟩⟩
 intro j s hq
 obtain ⟨y12, rfl⟩ : ∃ x, x = o13 := ⟨_, rfl⟩
 try dsimp only at k3 hq
 obtain ⟨rfl, r, hl, hf⟩ := hq
 refine Ra hl hf ?_
 rintro g42 s r hl hf
 refine RG r.1 k3 (fun c43 k3 => ?_) fun c43 k3 => ?_
 ·refine Ra hl hf ?_
  rintro g44 s r hl hf
  cases oK k3
  exact ⟨Or.inr rfl, hl, AU (AO r.1)⟩
 refine Ra hl hf ?_
 rintro g45 s r hl hf
 cases oK k3
 exact ⟨Or.inr rfl, hl, AU (AO r.1)⟩
def bX := fun a0 => Cq.mk (@Zk a0)
theorem OG : Fin zL 52 [] (Enc.enc (fu)) := by
 refine fnN ZK Zi ?_
 rintro low s - hl hf
 have q2 := @XK
 refine Ra hl hf ?_
 rintro g1 s r hl hf
 have q4 := @Ic
 refine Ra hl hf ?_
 rintro g3 s r hl hf
 exact ⟨Or.inr rfl, hl, AU (EG r.1 rfl)⟩
def qx := OG.call
theorem HT (a0 : Int) : Fin zL 71 [.int a0] (.bool (HN a0)) := by
 refine fnN TZ Ta ?_
 rintro low s r hl hf
 refine Ra hl hf ?_
 rintro g1 s - hl hf
 refine Ra hl hf ?_
 rintro g2 s r hl hf
 exact ⟨Or.inr rfl, hl, AU (AO r.1)⟩
def nj := fun a0 => (HT a0).call
theorem JZ (a0 : AY) : Fin zL 105 [Enc.enc a0] (.bool (Gt a0)) := by
 refine fnN TC RJ ?_
 rintro low s r hl hf
 refine Ra hl hf ?_
 rintro g1 s r hl hf
 refine Ra hl hf ?_
 rintro g2 s r hl hf
 exact ⟨Or.inr rfl, hl, AU (AO r.1)⟩
def S5 := fun a0 => (JZ a0).call
theorem Po {a0 : AY} {r : Int} (k0 : Cb a0 = some r) : Fin zL 87 [Enc.enc a0] (.int r) := by
 unfold Cb at k0; replace k0 := kq k0
 refine fnN G1 QN ?_
 rintro low s r hl hf
 have q23 := @S5
 refine Ra hl hf ?_
 rintro g1 s r hl hf
 refine Ra hl hf ?_
 rintro g2 s r hl hf
 have q4 := @uo
 refine Ra hl hf ?_
 rintro g3 s r hl hf
 refine blk ?_
 obtain ⟨o8, l9, k1⟩ := bnk k0
 refine BG (f := Az a0) (E := fun (x : Int × Int) s => Dn [C_ 1 g1 a0, I_ 3 x.1, (6, .v (.d (.agg [.fn 105 [] [], .fn 106 [] []]))), I_ 7 x.2] s ∧ s.low = low ∧ NoB G1 s) (Q := fun (y7 : Int) j s => j = .exit 0 ∧ Dn [C_ 1 g1 a0, I_ 3 y7] s ∧ s.low = low ∧ NoB G1 s) l9 ?_ ⟨r, hl, hf⟩ ?_
 ·rintro ⟨x5, x6⟩ s out ⟨r, hl, hf⟩ k2
  dsimp only at r
  simp only [Az] at k2
  refine Ra hl hf ?_
  rintro g10 s r hl hf
  refine Fg r.2.2.2.2.1 k2 (fun c11 k2 => ?_) fun c11 k2 => ?_
  ·refine blk ?_
   obtain ⟨v12, h13, k3⟩ := bnk k2
   refine Ra hl hf ?_ (h := by intro c; simp only [(t9 (x := .fn 105 [] []) (y := .fn 106 [] []) h13), rt, ps, nob hf, *, reduceCtorEq, Nat.reduceEqDiff, Nat.reduceAdd, Nat.reduceMul] <;> rfl)
   rintro g14 s r hl hf
   refine nE [C_ 1 g1 a0, I_ 3 x5, (6, .v (.d (.agg [.fn 105 [] [], .fn 106 [] []]))), I_ 7 x6, B_ 12 (if v12 then (DR a0) else (Gt a0))] hl hf ?_ ?_
   ·cases c16 : v12
    ·simp only [rs, ps, ta, td, hl, nob hf, r, c16, (JZ a0).call, reduceCtorEq, Nat.reduceEqDiff, Nat.reduceAdd]
    simp only [rs, ps, ta, td, hl, nob hf, r, c16, (Jr a0).call, reduceCtorEq, Nat.reduceEqDiff, Nat.reduceAdd]
   rintro s r hl hf
   refine Fg r.2.2.2.2.1 k3 (fun c18 k3 => ?_) fun c18 k3 => ?_
   ·refine Ra hl hf ?_
    rintro g19 s r hl hf
    refine Ra hl hf ?_
    rintro g20 s r hl hf
    obtain rfl := oK k3
    exact ⟨rfl, r, hl, hf⟩
   refine Ra hl hf ?_
   rintro g21 s r hl hf
   obtain rfl := oK k3
   exact ⟨rfl, r, hl, hf⟩
  obtain rfl := oK k2
  exact ⟨by decide, ⟨rfl, ⟨r.1, r.2.1, trivial⟩, hl, hf⟩⟩
 intro j s hq
 obtain ⟨y7, rfl⟩ : ∃ x, x = o8 := ⟨_, rfl⟩
 try dsimp only at k1 hq
 obtain ⟨rfl, r, hl, hf⟩ := hq
 refine Ra hl hf ?_
 rintro g22 s r hl hf
 cases oK k1
 exact ⟨Or.inr rfl, hl, AU (AO r.1)⟩
def Qw := fun a0 => Cq.mk (@Po a0)
theorem ZJ {a0 : VoiceBook} {a1 : Int} {a2 : Int} {a3 : Int} {r : (Int × Int)} (k0 : Gw a0 a1 a2 a3 = some r) : Fin zL 80 [Enc.enc a0, .int a1, .int a2, .int a3] (Enc.enc r) := by
 unfold Gw at k0; replace k0 := kq k0
 refine fnN a9 ch ?_
 rintro low s r hl hf
 have q22 := @Rn
 have q23 := @KE
 have q24 := @NB
 have q25 := @Py
 have q26 := @Kx
 have q27 := @Qw
 refine Ra hl hf ?_
 rintro g1 s r hl hf
 obtain ⟨⟨o10, o11⟩, q, k1⟩ := bnk k0
 try dsimp only at k1
 refine Rq (fun g13 => [C_ 10 (g13 + 1 + 1 + 1 + 1 + 1 + 1 + 1 + 1 + 1 + 1 + 1 + 1 + 1 + 1 + 1 + 1 + 1) o10, I_ 11 o11]) hl hf q ?_
 rintro g13 s r hl hf
 refine Ra hl hf ?_
 rintro g14 s r hl hf
 refine RG r.2.2.2.2.2.1 k1 (fun c15 k1 => ?_) fun c15 k1 => ?_
 ·obtain ⟨v16, h17, k2⟩ := bnk k1
  obtain ⟨v18, h19, k3⟩ := bnk k2
  refine Ra hl hf ?_
  rintro g20 s r hl hf
  cases oK k3
  exact ⟨Or.inr rfl, hl, Bn (AO r.1) (AO r.2.1)⟩
 refine Ra hl hf ?_
 rintro g21 s r hl hf
 cases oK k1
 exact ⟨Or.inr rfl, hl, Bn (AO r.1) (AO r.2.1)⟩
def bh := fun a0 a1 a2 a3 => Cq.mk (@ZJ a0 a1 a2 a3)
theorem Je {low : List Fr} {a0 : AB} {a1 : AG} {a2 : Int} {wja0 : Nat} {wta0 : Nat} {wga0 : Nat} (hwa0 : wja0 < low.length) {r : Bool} (k0 : B9 a0 a1 a2 = some r) : LW zL 64 [.agg (AB.lc a0 wja0 wta0 wga0), .d (Enc.enc a1), .d (.int a2)] low (.d (.bool r)) := by
 unfold B9 at k0; replace k0 := kq k0
 refine ir I1 Na ?_
 rintro s r hl hf
 have q29 := @bh
 have q2 := @UP
 refine Ra hl hf ?_
 rintro g1 s r hl hf
 obtain ⟨v3, h4, k1⟩ := bnk k0
 have q6 := @QM
 refine Ra hl hf ?_
 rintro g5 s r hl hf
 obtain ⟨v7, h8, k2⟩ := bnk k1
 refine Ra hl hf ?_
 rintro g9 s r hl hf
 refine Ra hl hf ?_
 rintro g10 s r hl hf
 refine blk ?_
 obtain ⟨o13, l14, k3⟩ := bnk k2
 refine BG (f := Ba a0 a2 v3 v7) (E := fun (x : Int) s => Dn [I_ 2 a2, (3, .box g1 (AB.lc a0 wja0 wta0 wga0)), C_ 7 (g5 + 1 + 1 + 1 + 1 + 1 + 1 + 1) v3, C_ 8 (g9 + 1 + 1 + 1 + 1 + 1 + 1 + 1) v7.Notes, I_ 31 (W ((W (v7.Notes.High - v7.Notes.Low)) + 1)), I_ 32 x] s ∧ s.low = low ∧ NoB I1 s) (Q := fun (o : ((Bool) ⊕ (Unit))) j s => match o with | .inl w12 => j = .ret ∧ FnJ Na.1 low (.d (.bool w12)) .ret s | .inr _ => j = .exit 0 ∧ Dn [(3, .box g1 (AB.lc a0 wja0 wta0 wga0)), C_ 7 (g5 + 1 + 1 + 1 + 1 + 1 + 1 + 1) v3, C_ 8 (g9 + 1 + 1 + 1 + 1 + 1 + 1 + 1) v7.Notes] s ∧ s.low = low ∧ NoB I1 s) l14 ?_ ⟨r, hl, hf⟩ ?_
 ·rintro x11 s out ⟨r, hl, hf⟩ k4
  unfold Ba at k4
  refine Ra hl hf ?_
  rintro g15 s r hl hf
  refine Fg r.2.2.2.2.2.2.1 k4 (fun c16 k4 => ?_) fun c16 k4 => ?_
  ·refine blk <| Ra hl hf ?_
   rintro g17 s r hl hf
   obtain ⟨v18, h19, k5⟩ := bnk k4
   have q21 := @OE
   refine Ra hl hf ?_
   rintro g20 s r hl hf
   refine Rx (fun g24 => [B_ 54 (if (decide (v18.2 = 0)) then (decide (v18.1 < 2)) else true)]) hl hf ?_
   rintro g24 s r hl hf
   refine Fg r.2.2.2.2.2.2.1 k5 (fun c25 k5 => ?_) fun c25 k5 => ?_
   ·refine Ra hl hf ?_
    rintro g26 s r hl hf
    obtain rfl := oK k5
    exact ⟨by decide, ⟨rfl, ⟨Or.inr rfl, hl, AU (AO r.1)⟩⟩⟩
   refine Ra hl hf ?_
   rintro g27 s r hl hf
   obtain rfl := oK k5
   exact ⟨rfl, r, hl, hf⟩
  obtain rfl := oK k4
  exact ⟨by decide, ⟨rfl, ⟨r.2.1, r.2.2.1, r.2.2.2.1, trivial⟩, hl, hf⟩⟩
 intro j s hq
 rcases o13 with w12 | _
 ·try dsimp only at k3 hq
  obtain ⟨rfl, hq⟩ := hq
  cases oK k3
  exact hq
 try dsimp only at k3 hq
 obtain ⟨rfl, r, hl, hf⟩ := hq
 refine Ra hl hf ?_
 rintro g28 s r hl hf
 cases oK k3
 exact ⟨Or.inr rfl, hl, AU (AO r.1)⟩
theorem TY {low : List Fr} {a0 : BenchBook} {r : AB} (k0 : FA a0 = some r) : LW zL 38 [.d (Enc.enc a0), .d (.agg [.fn 71 [] []])] low (.d (Enc.enc r)) := by
 unfold FA at k0; replace k0 := kq k0
 refine ir BI QD ?_
 rintro s r hl hf
 have q2 := @lQ
 have q3 := @eu
 have q4 := @Ia
 refine Ra hl hf ?_
 rintro g1 s r hl hf
 have q6 := @GG
 have q7 := @IB
 have q8 := @PR
 have q9 := @J1
 have q10 := @Ia
 have q11 := @qi
 refine Ra hl hf ?_ (h := by intro c; simp only [(UX (n := 2) (AG.mk (-1) (-1)) rfl (by decide)), (RV (LP := zL) (t := 13) (gm := c + 1) (key := (Bc.key (AG.mk (-1) (-1)))) (a := (Sl.nil : (Sl Int))) (vd := .nils) (hav := rfl)), rt, ps, nob hf, *, reduceCtorEq, Nat.reduceEqDiff, Nat.reduceAdd, Nat.reduceMul] <;> rfl)
 rintro g5 s r hl hf
 have q15 := @KW
 have q16 := @D7
 refine Ra hl hf ?_
 rintro g14 s r hl hf
 refine Ra hl hf ?_
 rintro g17 s r hl hf
 refine blk ?_
 obtain ⟨o21, l22, k1⟩ := bnk k0
 refine BG (f := Eb a0) (E := fun (x : (List (List Int × (Sl Int))) × Int) s => Dn [C_ 2 g1 a0, (3, .box (g1 + 1) [.d (.fn 71 [] [])]), C_ 4 (g1 + 1 + 1) (AB.mk (BenchBook.mk (VoiceBook.mk (Sl.nil : (Sl AL)) 0 (Sl.nil : (Sl AI))) (Sl.nil : (Sl AK)) 0) (Mp.nil : (Mp 2 (Sl Int)))), (5, .box (g5 + 1 + 1 + 1 + 1 + 1 + 1) (AB.lc (AB.mk a0 (Mp.nil : (Mp 2 (Sl Int)))) low.length 13 (g5 + 1))), (6, .v (.fn 64 [.agg (AB.lc (AB.mk a0 (Mp.nil : (Mp 2 (Sl Int)))) low.length 13 (g5 + 1))] [])), (13, .mapo (g5 + 1) 2 (D1 x.1)), E_ 20 a0.Pieces, I_ 21 a0.Pieces.len, I_ 22 x.2] s ∧ s.low = low ∧ NoB BI s) (Q := fun (y20 : (List (List Int × (Sl Int)))) j s => j = .exit 0 ∧ Dn [C_ 2 g1 a0, (3, .box (g1 + 1) [.d (.fn 71 [] [])]), C_ 4 (g1 + 1 + 1) (AB.mk (BenchBook.mk (VoiceBook.mk (Sl.nil : (Sl AL)) 0 (Sl.nil : (Sl AI))) (Sl.nil : (Sl AK)) 0) (Mp.nil : (Mp 2 (Sl Int)))), (5, .box (g5 + 1 + 1 + 1 + 1 + 1 + 1) (AB.lc (AB.mk a0 (Mp.nil : (Mp 2 (Sl Int)))) low.length 13 (g5 + 1))), (13, .mapo (g5 + 1) 2 (D1 y20))] s ∧ s.low = low ∧ NoB BI s) l22 ?_ ⟨r, hl, hf⟩ ?_
 ·rintro ⟨x18, x19⟩ s out ⟨r, hl, hf⟩ k2
  dsimp only at r
  simp only [Eb] at k2
  refine Ra hl hf ?_
  rintro g23 s r hl hf
  refine Fg r.2.2.2.2.2.2.2.2.2.1 k2 (fun c24 k2 => ?_) fun c24 k2 => ?_
  ·refine blk ?_
   obtain ⟨v25, h26, k3⟩ := bnk k2
   refine Ra hl hf ?_
   rintro g27 s r hl hf
   refine Ra hl hf ?_
   rintro g28 s r hl hf
   refine blk ?_
   obtain ⟨o32, l33, k4⟩ := bnk k3
   refine BG (f := Ee a0 x19 v25) (E := fun (x : (List (List Int × (Sl Int))) × Int) s => Dn [C_ 2 g1 a0, (3, .box (g1 + 1) [.d (.fn 71 [] [])]), C_ 4 (g1 + 1 + 1) (AB.mk (BenchBook.mk (VoiceBook.mk (Sl.nil : (Sl AL)) 0 (Sl.nil : (Sl AI))) (Sl.nil : (Sl AK)) 0) (Mp.nil : (Mp 2 (Sl Int)))), (5, .box (g5 + 1 + 1 + 1 + 1 + 1 + 1) (AB.lc (AB.mk a0 (Mp.nil : (Mp 2 (Sl Int)))) low.length 13 (g5 + 1))), (6, .v (.fn 64 [.agg (AB.lc (AB.mk a0 (Mp.nil : (Mp 2 (Sl Int)))) low.length 13 (g5 + 1))] [])), I_ 7 x19, (13, .mapo (g5 + 1) 2 (D1 x.1)), E_ 20 a0.Pieces, I_ 21 a0.Pieces.len, I_ 22 x19, I_ 29 v25.Parts.len, I_ 30 x.2] s ∧ s.low = low ∧ NoB BI s) (Q := fun (y31 : (List (List Int × (Sl Int)))) j s => j = .exit 2 ∧ Dn [C_ 2 g1 a0, (3, .box (g1 + 1) [.d (.fn 71 [] [])]), C_ 4 (g1 + 1 + 1) (AB.mk (BenchBook.mk (VoiceBook.mk (Sl.nil : (Sl AL)) 0 (Sl.nil : (Sl AI))) (Sl.nil : (Sl AK)) 0) (Mp.nil : (Mp 2 (Sl Int)))), (5, .box (g5 + 1 + 1 + 1 + 1 + 1 + 1) (AB.lc (AB.mk a0 (Mp.nil : (Mp 2 (Sl Int)))) low.length 13 (g5 + 1))), (6, .v (.fn 64 [.agg (AB.lc (AB.mk a0 (Mp.nil : (Mp 2 (Sl Int)))) low.length 13 (g5 + 1))] [])), (13, .mapo (g5 + 1) 2 (D1 y31)), E_ 20 a0.Pieces, I_ 21 a0.Pieces.len, I_ 22 x19] s ∧ s.low = low ∧ NoB BI s) l33 ?_ ⟨r, hl, hf⟩ ?_
   ·rintro ⟨x29, x30⟩ s out ⟨r, hl, hf⟩ k5
    dsimp only at r
    simp only [Ee] at k5
    refine Ra hl hf ?_
    rintro g34 s r hl hf
    refine Fg r.2.2.2.2.2.2.2.2.2.2.2.2.1 k5 (fun c35 k5 => ?_) fun c35 k5 => ?_
    ·refine blk <| Ra hl hf ?_
     rintro g36 s r hl hf
     have q38 := @FS
     refine Ra hl hf ?_
     rintro g37 s r hl hf
     refine Ra hl hf ?_
     rintro g39 s r hl hf
     refine blk ?_
     obtain ⟨o43, l44, k6⟩ := bnk k5
     refine BG (f := Ef a0 x19 x30) (E := fun (x : (List (List Int × (Sl Int))) × Int) s => Dn [C_ 2 g1 a0, (3, .box (g1 + 1) [.d (.fn 71 [] [])]), C_ 4 (g1 + 1 + 1) (AB.mk (BenchBook.mk (VoiceBook.mk (Sl.nil : (Sl AL)) 0 (Sl.nil : (Sl AI))) (Sl.nil : (Sl AK)) 0) (Mp.nil : (Mp 2 (Sl Int)))), (5, .box (g5 + 1 + 1 + 1 + 1 + 1 + 1) (AB.lc (AB.mk a0 (Mp.nil : (Mp 2 (Sl Int)))) low.length 13 (g5 + 1))), (6, .v (.fn 64 [.agg (AB.lc (AB.mk a0 (Mp.nil : (Mp 2 (Sl Int)))) low.length 13 (g5 + 1))] [])), I_ 7 x19, C_ 10 (g37 + 1 + 1 + 1) (AG.mk x19 x30), (13, .mapo (g5 + 1) 2 (D1 x.1)), E_ 20 a0.Pieces, I_ 21 a0.Pieces.len, I_ 22 x19, I_ 29 v25.Parts.len, I_ 30 x30, I_ 39 a0.Voice.Boys.len, I_ 40 x.2] s ∧ s.low = low ∧ NoB BI s) (Q := fun (y42 : (List (List Int × (Sl Int)))) j s => j = .exit 4 ∧ Dn [C_ 2 g1 a0, (3, .box (g1 + 1) [.d (.fn 71 [] [])]), C_ 4 (g1 + 1 + 1) (AB.mk (BenchBook.mk (VoiceBook.mk (Sl.nil : (Sl AL)) 0 (Sl.nil : (Sl AI))) (Sl.nil : (Sl AK)) 0) (Mp.nil : (Mp 2 (Sl Int)))), (5, .box (g5 + 1 + 1 + 1 + 1 + 1 + 1) (AB.lc (AB.mk a0 (Mp.nil : (Mp 2 (Sl Int)))) low.length 13 (g5 + 1))), (6, .v (.fn 64 [.agg (AB.lc (AB.mk a0 (Mp.nil : (Mp 2 (Sl Int)))) low.length 13 (g5 + 1))] [])), I_ 7 x19, C_ 10 (g37 + 1 + 1 + 1) (AG.mk x19 x30), (13, .mapo (g5 + 1) 2 (D1 y42)), E_ 20 a0.Pieces, I_ 21 a0.Pieces.len, I_ 22 x19, I_ 29 v25.Parts.len, I_ 30 x30] s ∧ s.low = low ∧ NoB BI s) l44 ?_ ⟨r, hl, hf⟩ ?_
     ·rintro ⟨x40, x41⟩ s out ⟨r, hl, hf⟩ k7
      dsimp only at r
      simp only [Ef] at k7
      refine Ra hl hf ?_
      rintro g45 s r hl hf
      refine Fg r.2.2.2.2.2.2.2.2.2.2.2.2.2.2.2.1 k7 (fun c46 k7 => ?_) fun c46 k7 => ?_
      ·refine blk <| Ra hl hf ?_
       rintro g47 s r hl hf
       obtain ⟨o53, q54, k8⟩ := bnk k7
       refine nE [C_ 2 g1 a0, (3, .box (g1 + 1) [.d (.fn 71 [] [])]), C_ 4 (g1 + 1 + 1) (AB.mk (BenchBook.mk (VoiceBook.mk (Sl.nil : (Sl AL)) 0 (Sl.nil : (Sl AI))) (Sl.nil : (Sl AK)) 0) (Mp.nil : (Mp 2 (Sl Int)))), (5, .box (g5 + 1 + 1 + 1 + 1 + 1 + 1) (AB.lc (AB.mk a0 (Mp.nil : (Mp 2 (Sl Int)))) low.length 13 (g5 + 1))), (6, .v (.fn 64 [.agg (AB.lc (AB.mk a0 (Mp.nil : (Mp 2 (Sl Int)))) low.length 13 (g5 + 1))] [])), I_ 7 x19, C_ 10 (g37 + 1 + 1 + 1) (AG.mk x19 x30), I_ 11 x41, (13, .mapo (g5 + 1) 2 (D1 x40)), E_ 20 a0.Pieces, I_ 21 a0.Pieces.len, I_ 22 x19, I_ 29 v25.Parts.len, I_ 30 x30, I_ 39 a0.Voice.Boys.len, I_ 40 x41, B_ 53 o53] hl hf ?_ ?_
       ·by_cases c49 : (HN x41) = true
        ·rw [if_pos c49] at q54
         have e1 := oI q54
         obtain ⟨c48, hc48⟩ := Il (LP := zL) (ds := [.int x41]) (HT x41); simp only [List.map_cons, List.map_nil] at hc48
         simp only [rs, ps, Br, He, Iw, Dc, hl, nob hf, r, hc48, c49, ← e1, reduceCtorEq, Nat.reduceEqDiff, Nat.reduceAdd]
        rw [if_neg c49] at q54
        have c49 := eq_false_of_ne_true c49
        obtain ⟨v50, h51, q72⟩ := bnd q54
        have e1 := oI q72
        obtain ⟨c48, hc48⟩ := Il (LP := zL) (ds := [.int x41]) (HT x41); simp only [List.map_cons, List.map_nil] at hc48
        have f52 : ∀ (e : Env) (c : Nat), (om zL).call 64 [.agg (AB.lc (AB.mk a0 (Mp.nil : (Mp 2 (Sl Int)))) low.length 13 (g5 + 1)), .d (Enc.enc (AG.mk x19 x30)), .d (.int x41)] (low ++ [⟨e, none⟩]) c = some (.d (.bool (v50)), low ++ [⟨e, none⟩], TU zL 64 [.agg (AB.lc (AB.mk a0 (Mp.nil : (Mp 2 (Sl Int)))) low.length 13 (g5 + 1)), .d (Enc.enc (AG.mk x19 x30)), .d (.int x41)] (low ++ [⟨e, none⟩]) c) := fun e c => LW.om (Je (by first | omega | (simp only [List.length_append, List.length_cons, List.length_nil]; omega)) h51) c
        simp only [rs, ps, Br, He, Iw, Dc, hl, nob hf, r, hc48, c49, f52, ← e1, reduceCtorEq, Nat.reduceEqDiff, Nat.reduceAdd]
       rintro s r hl hf
       refine Fg r.2.2.2.2.2.2.2.2.2.2.2.2.2.2.2.2.1 k8 (fun c57 k8 => ?_) fun c57 k8 => ?_
       ·refine Ra hl hf ?_
        rintro g58 s r hl hf
        obtain rfl := oK k8
        exact ⟨rfl, r, hl, hf⟩
       obtain ⟨v59, h60, k9⟩ := bnk k8
       have q62 := @PR
       have q63 := @J1
       have q64 := @J4
       have q68 := Es (sz := 1) (x := (Nb (Sl.nil : (Sl Int)) x40 (Bc.key (AG.mk x19 x30)))) (y := (Sl.cold [x41] : Sl Int)) rfl rfl h60
       refine Ra hl hf ?_ (h := by intro c; simp only [(UX (n := 2) (AG.mk x19 x30) rfl (by decide)), (RU (LP := zL) (t := 13) (gm := g5 + 1) (key := (Bc.key (AG.mk x19 x30))) (es := x40) (z := (Sl.nil : (Sl Int))) (hz := rfl)), (cA (LP := zL) (a := (Nb (Sl.nil : (Sl Int)) x40 (Bc.key (AG.mk x19 x30)))) (y := .d (.int (HG x40 (Bc.key (AG.mk x19 x30)))))), (S8 (LP := zL) (x := Sl.lv (Sl.spent (Nb (Sl.nil : (Sl Int)) x40 (Bc.key (AG.mk x19 x30))))) (y := .int (HG x40 (Bc.key (AG.mk x19 x30))))), (TG (LP := zL) (t := 13) (gm := g5 + 1) (key := (Bc.key (AG.mk x19 x30))) (es := x40) (z := (Sl.nil : (Sl Int))) (a := v59)), rt, ps, nob hf, *, reduceCtorEq, Nat.reduceEqDiff, Nat.reduceAdd, Nat.reduceMul] <;> rfl)
       rintro g61 s r hl hf
       refine Ra hl hf ?_
       rintro g71 s r hl hf
       obtain rfl := oK k9
       exact ⟨rfl, r, hl, hf⟩
      obtain rfl := oK k7
      exact ⟨by decide, ⟨rfl, ⟨r.1, r.2.1, r.2.2.1, r.2.2.2.1, r.2.2.2.2.1, r.2.2.2.2.2.1, r.2.2.2.2.2.2.1, r.2.2.2.2.2.2.2.1, r.2.2.2.2.2.2.2.2.1, r.2.2.2.2.2.2.2.2.2.1, r.2.2.2.2.2.2.2.2.2.2.1, r.2.2.2.2.2.2.2.2.2.2.2.1, r.2.2.2.2.2.2.2.2.2.2.2.2.1, trivial⟩, hl, hf⟩⟩
     intro j s hq
     obtain ⟨y42, rfl⟩ : ∃ x, x = o43 := ⟨_, rfl⟩
     try dsimp only at k6 hq
     obtain ⟨rfl, r, hl, hf⟩ := hq
     refine Ra hl hf ?_
     rintro g73 s r hl hf
     obtain rfl := oK k6
     exact ⟨rfl, r, hl, hf⟩
    obtain rfl := oK k5
    exact ⟨by decide, ⟨rfl, ⟨r.1, r.2.1, r.2.2.1, r.2.2.2.1, r.2.2.2.2.1, r.2.2.2.2.2.2.1, r.2.2.2.2.2.2.2.1, r.2.2.2.2.2.2.2.2.1, r.2.2.2.2.2.2.2.2.2.1, trivial⟩, hl, hf⟩⟩
   intro j s hq
   obtain ⟨y31, rfl⟩ : ∃ x, x = o32 := ⟨_, rfl⟩
   try dsimp only at k4 hq
   obtain ⟨rfl, r, hl, hf⟩ := hq
   refine Ra hl hf ?_
   rintro g74 s r hl hf
   obtain rfl := oK k4
   exact ⟨rfl, r, hl, hf⟩
  obtain rfl := oK k2
  exact ⟨by decide, ⟨rfl, ⟨r.1, r.2.1, r.2.2.1, r.2.2.2.1, r.2.2.2.2.2.1, trivial⟩, hl, hf⟩⟩
 intro j s hq
 obtain ⟨y20, rfl⟩ : ∃ x, x = o21 := ⟨_, rfl⟩
 try dsimp only at k1 hq
 obtain ⟨rfl, r, hl, hf⟩ := hq
 have q76 := @GG
 have q77 := @IB
 have q78 := @D7
 refine Ra hl hf ?_
 rintro g75 s r hl hf
 cases oK k1
 exact ⟨Or.inr rfl, hl, AU (Lx (by rw [hl]; exact r.1) r.2.1)⟩
theorem Yt {a0 : BenchBook} {a1 : Bool} {r : (AB × Int)} (k0 : Bm a0 a1 = some r) : Fin zL 27 [Enc.enc a0, .bool a1] (Enc.enc r) := by
 unfold Bm at k0; replace k0 := kq k0
 refine fnN bH cQ ?_
 rintro low s r hl hf
 have q26 := @bX
 have q27 := @TA
 have q2 := @Ia
 refine Ra hl hf ?_
 rintro g1 s r hl hf
 obtain ⟨v3, h4, k1⟩ := bnk k0
 refine Ra hl hf ?_
 rintro g5 s r hl hf
 refine Ra hl hf ?_
 rintro g6 s r hl hf
 refine RG r.2.2.2.2.1 k1 (fun c7 k1 => ?_) fun c7 k1 => ?_
 ·refine Ra hl hf ?_
  rintro g8 s r hl hf
  refine RG r.2.2.1 k1 (fun c9 k1 => ?_) fun c9 k1 => ?_
  ·obtain ⟨v10, h11, k2⟩ := bnk k1
   refine Ra hl hf ?_
   rintro g12 s r hl hf
   refine Ra hl hf ?_
   rintro g13 s r hl hf
   refine RG r.2.2.1 k2 (fun c14 k2 => ?_) fun c14 k2 => ?_
   ·obtain ⟨v15, h16, k3⟩ := bnk k2
    have q18 := Fin.call (LP := zL) (n := 52) (ds := []) (v := .agg [.fn 71 [] []]) (OG)
    have q19 := LW.call (LP := zL) (ds := [Enc.enc a0, .agg [.fn 71 [] []]]) (TY h16)
    refine Ra hl hf ?_
    rintro g17 s r hl hf
    cases oK k3
    exact ⟨Or.inr rfl, hl, Bn (EG r.1 rfl) (AO r.2.1)⟩
   have q21 := @NQ
   refine Ra hl hf ?_
   rintro g20 s r hl hf
   cases oK k2
   exact ⟨Or.inr rfl, hl, Bn (EG r.1 rfl) (AO r.2.1)⟩
  have q23 := @NQ
  refine Ra hl hf ?_
  rintro g22 s r hl hf
  cases oK k1
  exact ⟨Or.inr rfl, hl, Bn (EG r.1 rfl) (AO r.2.1)⟩
 have q25 := @NQ
 refine Ra hl hf ?_
 rintro g24 s r hl hf
 cases oK k1
 exact ⟨Or.inr rfl, hl, Bn (EG r.1 rfl) (AO r.2.1)⟩
def GR := fun a0 a1 => Cq.mk (@Yt a0 a1)
theorem iH {a0 : BenchBook} {a1 : Int} {a2 : Int} {r : ((Sl Int) × Int)} (k0 : Fh a0 a1 a2 = some r) : Fin zL 11 [Enc.enc a0, .int a1, .int a2] (Enc.enc r) := by
 unfold Fh at k0; replace k0 := kq k0
 refine fnN jY j4 ?_
 rintro low s r hl hf
 have q23 := @GR
 have q24 := @Oc
 have q25 := @Kp
 refine Ra hl hf ?_
 rintro g1 s r hl hf
 obtain ⟨⟨o9, o10⟩, q, k1⟩ := bnk k0
 try dsimp only at k1
 refine Rq (fun g12 => [C_ 8 (g12 + 1 + 1 + 1 + 1 + 1 + 1 + 1 + 1 + 1 + 1 + 1 + 1 + 1 + 1 + 1 + 1 + 1 + 1 + 1 + 1) o9, I_ 9 o10]) hl hf q ?_
 rintro g12 s r hl hf
 refine Ra hl hf ?_
 rintro g13 s r hl hf
 refine RG r.2.2.2.2.1 k1 (fun c14 k1 => ?_) fun c14 k1 => ?_
 ·have q16 := @FS
  have q17 := fun s ro => ci (n := 2) s ro o9.able (AG.mk a1 a2) (Sl.nil : (Sl Int)) (.nils) rfl (by decide) rfl
  refine Ra hl hf ?_
  rintro g15 s r hl hf
  obtain ⟨v18, h19, k2⟩ := bnk k1
  have q21 := OY (sz := 1) rfl h19
  refine Ra hl hf ?_
  rintro g20 s r hl hf
  cases oK k2
  exact ⟨Or.inr rfl, hl, Bn (j9 r.1) (AO r.2.1)⟩
 refine Ra hl hf ?_
 rintro g22 s r hl hf
 cases oK k1
 exact ⟨Or.inr rfl, hl, Bn (AO r.1) (AO r.2.1)⟩
def QZ := fun a0 a1 a2 => Cq.mk (@iH a0 a1 a2)
theorem FW {a0 : AB} {a1 : (Sl Int)} {r : (Sl Int)} (k0 : B6 a0 a1 = some r) : Fin zL 32 [Enc.enc a0, Enc.enc a1] (Enc.enc r) := by
 unfold B6 at k0; replace k0 := kq k0
 refine fnN Hy Tv ?_
 rintro low s r hl hf
 have q23 := @Ll
 refine Ra hl hf ?_
 rintro g1 s r hl hf
 refine Ra hl hf ?_
 rintro g2 s r hl hf
 refine Ra hl hf ?_
 rintro g3 s r hl hf
 refine blk ?_
 obtain ⟨o7, l8, k1⟩ := bnk k0
 refine BG (f := Bq a0 a1) (E := fun (x : (Sl Int) × Int) s => Dn [E_ 1 a1, (5, .v (Sl.lv x.1)), I_ 10 a0.BenchBook.Pieces.len, I_ 11 x.2] s ∧ s.low = low ∧ NoB Hy s) (Q := fun (y6 : (Sl Int)) j s => j = .exit 0 ∧ Dn [(5, .v (Sl.lv y6))] s ∧ s.low = low ∧ NoB Hy s) l8 ?_ ⟨r, hl, hf⟩ ?_
 ·rintro ⟨x4, x5⟩ s out ⟨r, hl, hf⟩ k2
  dsimp only at r
  simp only [Bq] at k2
  refine Ra hl hf ?_
  rintro g9 s r hl hf
  refine Fg r.2.2.2.2.1 k2 (fun c10 k2 => ?_) fun c10 k2 => ?_
  ·refine blk <| Ra hl hf ?_
   rintro g11 s r hl hf
   obtain ⟨v12, h13, k3⟩ := bnk k2
   refine Ra hl hf ?_
   rintro g14 s r hl hf
   refine RG r.2.2.2.2.2.1 k3 (fun c15 k3 => ?_) fun c15 k3 => ?_
   ·refine Ra hl hf ?_
    rintro g16 s r hl hf
    obtain rfl := oK k3
    exact ⟨rfl, r, hl, hf⟩
   obtain ⟨v17, h18, k4⟩ := bnk k3
   have q20 := Es (sz := 1) (x := x4) (y := (Sl.cold [x5] : Sl Int)) rfl rfl h18
   refine Ra hl hf ?_
   rintro g19 s r hl hf
   refine Ra hl hf ?_
   rintro g21 s r hl hf
   obtain rfl := oK k4
   exact ⟨rfl, r, hl, hf⟩
  obtain rfl := oK k2
  exact ⟨by decide, ⟨rfl, ⟨r.2.1, trivial⟩, hl, hf⟩⟩
 intro j s hq
 obtain ⟨y6, rfl⟩ : ∃ x, x = o7 := ⟨_, rfl⟩
 try dsimp only at k1 hq
 obtain ⟨rfl, r, hl, hf⟩ := hq
 refine Ra hl hf ?_
 rintro g22 s r hl hf
 cases oK k1
 exact ⟨Or.inr rfl, hl, AU (cF r.1)⟩
def T9 := fun a0 a1 => Cq.mk (@FW a0 a1)
theorem RF {a0 : AB} {a1 : (Sl Int)} {a2 : Int} {r : (Sl AD)} (k0 : Be a0 a1 a2 = some r) : Fin zL 31 [Enc.enc a0, Enc.enc a1, .int a2] (Enc.enc r) := by
 unfold Be at k0; replace k0 := kq k0
 refine fnN D8 Rb ?_
 rintro low s r hl hf
 refine Ra hl hf ?_
 rintro g1 s r hl hf
 refine Ra hl hf ?_
 rintro g2 s r hl hf
 refine Ra hl hf ?_
 rintro g3 s r hl hf
 refine blk ?_
 obtain ⟨o7, l8, k1⟩ := bnk k0
 refine BG (f := BW a0 a1 a2) (E := fun (x : (Sl AD) × Int) s => Dn [I_ 2 a2, C_ 3 g1 a0, (7, .v (Sl.lv x.1)), E_ 12 a1, I_ 13 a1.len, I_ 14 x.2] s ∧ s.low = low ∧ NoB D8 s) (Q := fun (y6 : (Sl AD)) j s => j = .exit 0 ∧ Dn [C_ 3 g1 a0, (7, .v (Sl.lv y6))] s ∧ s.low = low ∧ NoB D8 s) l8 ?_ ⟨r, hl, hf⟩ ?_
 ·rintro ⟨x4, x5⟩ s out ⟨r, hl, hf⟩ k2
  dsimp only at r
  simp only [BW] at k2
  refine Ra hl hf ?_
  rintro g9 s r hl hf
  refine Fg r.2.2.2.2.2.2.1 k2 (fun c10 k2 => ?_) fun c10 k2 => ?_
  ·refine blk ?_
   obtain ⟨v11, h12, k3⟩ := bnk k2
   refine Ra hl hf ?_
   rintro g13 s r hl hf
   obtain ⟨v14, h15, k4⟩ := bnk k3
   obtain ⟨v16, h17, k5⟩ := bnk k4
   have q19 := @dV
   have q20 := ll (sz := 3) rfl h17
   refine Ra hl hf ?_
   rintro g18 s r hl hf
   refine blk ?_
   obtain ⟨o24, l25, k6⟩ := bnk k5
   refine BG (f := CB v11 v16) (E := fun (x : (Sl AD) × Int) s => Dn [I_ 2 a2, C_ 3 g1 a0, (7, .v (Sl.lv x.1)), I_ 9 v11, E_ 12 a1, I_ 13 a1.len, I_ 14 x5, E_ 35 v16, I_ 36 v16.len, I_ 37 x.2] s ∧ s.low = low ∧ NoB D8 s) (Q := fun (y23 : (Sl AD)) j s => j = .exit 2 ∧ Dn [I_ 2 a2, C_ 3 g1 a0, (7, .v (Sl.lv y23)), E_ 12 a1, I_ 13 a1.len, I_ 14 x5] s ∧ s.low = low ∧ NoB D8 s) l25 ?_ ⟨r, hl, hf⟩ ?_
   ·rintro ⟨x21, x22⟩ s out ⟨r, hl, hf⟩ k7
    dsimp only at r
    simp only [CB] at k7
    refine Ra hl hf ?_
    rintro g26 s r hl hf
    refine Fg r.2.2.2.2.2.2.2.2.2.2.1 k7 (fun c27 k7 => ?_) fun c27 k7 => ?_
    ·refine blk ?_
     obtain ⟨v28, h29, k8⟩ := bnk k7
     refine Ra hl hf ?_
     rintro g30 s r hl hf
     obtain ⟨v31, h32, k9⟩ := bnk k8
     have q34 := @FS
     have q35 := Es (sz := 4) (x := x21) (y := (Sl.cold [(AD.mk (AG.mk v11 x22) v28.Many 0)] : Sl AD)) rfl rfl h32
     refine Ra hl hf ?_
     rintro g33 s r hl hf
     refine Ra hl hf ?_
     rintro g36 s r hl hf
     obtain rfl := oK k9
     exact ⟨rfl, r, hl, hf⟩
    obtain rfl := oK k7
    exact ⟨by decide, ⟨rfl, ⟨r.1, r.2.1, r.2.2.1, r.2.2.2.2.1, r.2.2.2.2.2.1, r.2.2.2.2.2.2.1, trivial⟩, hl, hf⟩⟩
   intro j s hq
   obtain ⟨y23, rfl⟩ : ∃ x, x = o24 := ⟨_, rfl⟩
   try dsimp only at k6 hq
   obtain ⟨rfl, r, hl, hf⟩ := hq
   refine Ra hl hf ?_
   rintro g37 s r hl hf
   obtain rfl := oK k6
   exact ⟨rfl, r, hl, hf⟩
  obtain rfl := oK k2
  exact ⟨by decide, ⟨rfl, ⟨r.2.1, r.2.2.1, trivial⟩, hl, hf⟩⟩
 intro j s hq
 obtain ⟨y6, rfl⟩ : ∃ x, x = o7 := ⟨_, rfl⟩
 try dsimp only at k1 hq
 obtain ⟨rfl, r, hl, hf⟩ := hq
 refine Ra hl hf ?_
 rintro g38 s r hl hf
 cases oK k1
 exact ⟨Or.inr rfl, hl, AU (cF r.1)⟩
def FZ := fun a0 a1 a2 => Cq.mk (@RF a0 a1 a2)
end Go.Lf
