/- A part of the proof. -/
import Derived.Test.YtbkliocalcihjaaDoorx20
import Derived.Test.YtbkliocalcihjaaDoorx22
import Derived.Test.YtbkliocalcihjaaDoorx43
set_option linter.all false
set_option maxHeartbeats 9999999
namespace Go.Lf
open Go
theorem Gw (a0 : (Sl (Ar 5 Int))) : zj zL 65 [Enc.enc a0] (.bool (FT a0)) := by
 refine fnN LO Eo ?_
 rintro low s r hl hf
 refine Ra hl hf ?_
 rintro g1 s r hl hf
 refine Ra hl hf ?_
 rintro g2 s r hl hf
 exact ⟨Or.inr rfl, hl, AS (AZ r.1)⟩
def ca := fun a0 => (Gw a0).call
theorem KX {low : List Fr} {a0 : (Sl (Sl (Ar 5 Int)))} {r : Int} (k0 : Bz a0 = some r) : Ou zL 82 [.d (Enc.enc a0), .d (.fn 65 [] [])] low (.d (.int r)) := by
 unfold Bz at k0; replace k0 := kq k0
 refine nM FU Dy ?_
 rintro s r hl hf
 refine Ra hl hf ?_
 rintro g1 s r hl hf
 refine Ra hl hf ?_
 rintro g2 s r hl hf
 refine blk ?_
 obtain ⟨o5, l6, k1⟩ := bnk k0
 refine Bf (f := BF a0) (E := fun (x : Int) s => Em [E_ 0 a0, (1, .v (.d (.fn 65 [] []))), I_ 7 a0.len, I_ 8 x] s ∧ s.low = low ∧ NoB FU s) (Q := fun (o : ((Int) ⊕ (Unit))) j s => match o with | .inl w4 => j = .ret ∧ FnJ Dy.1 low (.d (.int w4)) .ret s | .inr _ => j = .exit 0 ∧ Em [] s ∧ s.low = low ∧ NoB FU s) l6 ?_ ⟨r, hl, hf⟩ ?_
 ·rintro x3 s out ⟨r, hl, hf⟩ k2
  unfold BF at k2
  refine Ra hl hf ?_
  rintro g7 s r hl hf
  refine IJ r.2.2.2.2.1 k2 (fun c8 k2 => ?_) fun c8 k2 => ?_
  ·refine blk <| Ra hl hf ?_
   rintro g9 s r hl hf
   obtain ⟨v10, h11, k3⟩ := bnk k2
   obtain ⟨c12, hc12⟩ := Gt (LP := zL) (ds := [Enc.enc v10]) (Gw v10); simp only [List.map_cons, List.map_nil] at hc12
   have q14 := @hc12
   refine Ra hl hf ?_
   rintro g13 s r hl hf
   refine IJ r.2.2.2.2.2.1 k3 (fun c15 k3 => ?_) fun c15 k3 => ?_
   ·refine Ra hl hf ?_
    rintro g16 s r hl hf
    obtain rfl := oK k3
    exact ⟨by decide, ⟨rfl, ⟨Or.inr rfl, hl, AS (AZ r.1)⟩⟩⟩
   refine Ra hl hf ?_
   rintro g17 s r hl hf
   obtain rfl := oK k3
   exact ⟨rfl, r, hl, hf⟩
  obtain rfl := oK k2
  exact ⟨by decide, ⟨rfl, trivial, hl, hf⟩⟩
 intro j s hq
 rcases o5 with w4 | _
 ·try dsimp only at k1 hq
  obtain ⟨rfl, hq⟩ := hq
  cases oK k1
  exact hq
 try dsimp only at k1 hq
 obtain ⟨rfl, -, hl, hf⟩ := hq
 refine Ra hl hf ?_
 rintro g18 s r hl hf
 cases oK k1
 exact ⟨Or.inr rfl, hl, AS (AZ r.1)⟩
theorem I6 {low : List Fr} {a0 : (Sl (Sl (Ar 5 Int)))} {r : Bool} (k0 : BQ a0 = some r) : Ou zL 64 [.d (Enc.enc a0), .d (.fn 65 [] [])] low (.d (.bool r)) := by
 unfold BQ at k0; replace k0 := kq k0
 refine nM Kp ER ?_
 rintro s r hl hf
 refine Ra hl hf ?_
 rintro g1 s r hl hf
 obtain ⟨v2, h3, k1⟩ := bnk k0
 have f4 : ∀ (e : Env) (c : Nat), (om zL).call 82 [.d (Enc.enc a0), .d (.fn 65 [] [])] (low ++ [⟨e, none⟩]) c = some (.d (.int (v2)), low ++ [⟨e, none⟩], f8 zL 82 [.d (Enc.enc a0), .d (.fn 65 [] [])] (low ++ [⟨e, none⟩]) c) := fun e c => Ou.om (KX h3) c
 have q6 := @f4
 refine Ra hl hf ?_
 rintro g5 s r hl hf
 cases oK k1
 exact ⟨Or.inr rfl, hl, AS (AZ r.1)⟩
theorem NR {a0 : AA} {r : Bool} (k0 : Bh a0 = some r) : zj zL 39 [Enc.enc a0] (.bool r) := by
 unfold Bh at k0; replace k0 := kq k0
 refine fnN OF Fo ?_
 rintro low s r hl hf
 refine Ra hl hf ?_
 rintro g1 s r hl hf
 obtain ⟨v2, h3, k1⟩ := bnk k0
 have q5 := Ou.call (LP := zL) (ds := [Enc.enc a0.truths, .fn 65 [] []]) (I6 h3)
 refine Ra hl hf ?_
 rintro g4 s r hl hf
 cases oK k1
 exact ⟨Or.inr rfl, hl, AS (AZ r.1)⟩
def Ie := fun a0 => Cq.mk (@NR a0)
theorem Xe {a0 : VoiceBook} {r : (Bool × Int)} (k0 : Bt a0 = some r) : zj zL 13 [Enc.enc a0] (Enc.enc r) := by
 unfold Bt at k0; replace k0 := kq k0
 refine fnN bO Ky ?_
 rintro low s r hl hf
 have q14 := @Gl
 have q15 := @Ie
 refine Ra hl hf ?_
 rintro g1 s r hl hf
 obtain ⟨v2, h3, k1⟩ := bnk k0
 refine Ra hl hf ?_
 rintro g4 s r hl hf
 refine Ra hl hf ?_
 rintro g5 s r hl hf
 refine Rz r.2.2.1 k1 (fun c6 k1 => ?_) fun c6 k1 => ?_
 ·obtain ⟨v7, h8, k2⟩ := bnk k1
  obtain ⟨v9, h10, k3⟩ := bnk k2
  have q12 := zj.call (LP := zL) (ds := [Enc.enc a0, .nils]) (I3 h8)
  refine Ra hl hf ?_
  rintro g11 s r hl hf
  cases oK k3
  exact ⟨Or.inr rfl, hl, CV (AZ r.1) (AZ r.2.1)⟩
 refine Ra hl hf ?_
 rintro g13 s r hl hf
 cases oK k1
 exact ⟨Or.inr rfl, hl, CV (AZ r.1) (AZ r.2.1)⟩
def J8 := fun a0 => Cq.mk (@Xe a0)
def XD : ∀ (a0 : OrganBook), ∀ (a1 : (Sl Int)), (Cq zL 58 [Enc.enc a0, Enc.enc a1] (Bg a0 a1) fun x => .d (Enc.enc x)) := fun a0 a1 => gx
theorem MO {a0 : OrganBook} {a1 : (Sl Int)} {x : AH} (h : Bg a0 a1 = some x) : A5 (om zL) 58 [Enc.enc a0, Enc.enc a1] = some (.d (Enc.enc x)) := Eq.trans (XD a0 a1) (by rw [h]; rfl)
theorem Vm {a0 : OrganBook} {r : Bool} (k0 : DZ a0 = some r) : zj zL 57 [Enc.enc a0] (.bool r) := by
 unfold DZ at k0; replace k0 := kq k0
 refine fnN YD Jh ?_
 rintro low s r hl hf
 have q12 := @J8
 refine Ra hl hf ?_
 rintro g1 s r hl hf
 obtain ⟨v2, h3, k1⟩ := bnk k0
 refine Ra hl hf ?_
 rintro g4 s r hl hf
 obtain ⟨o8, q9, k2⟩ := bnk k1
 refine lH [B_ 2 o8] hl hf ?_ ?_
 ·by_cases c5 : v2.1 = true
  ·rw [if_pos c5] at q9
   obtain ⟨v6, h7, q11⟩ := bnd q9
   have e1 := oI q11
   simp only [rs, ps, hl, nob hf, r, c5, (show A5 (om zL) 58 [Enc.enc a0, .nils] = _ from MO h7), ← e1, reduceCtorEq, Nat.reduceEqDiff, Nat.reduceAdd]
  rw [if_neg c5] at q9
  have c5 := eq_false_of_ne_true c5
  have e1 := oI q9
  simp only [rs, ps, hl, nob hf, r, c5, ← e1, reduceCtorEq, Nat.reduceEqDiff, Nat.reduceAdd]
 rintro s r hl hf
 cases oK k2
 exact ⟨Or.inr rfl, hl, AS (AZ r.1)⟩
def YO := fun a0 => Cq.mk (@Vm a0)
theorem W4 {a0 : OrganBook} {a1 : Bool} {r : (AH × Int)} (k0 : DG a0 a1 = some r) : zj zL 34 [Enc.enc a0, .bool a1] (Enc.enc r) := by
 unfold DG at k0; replace k0 := kq k0
 refine fnN bw KQ ?_
 rintro low s r hl hf
 have q24 := @bq
 have q25 := @YO
 have q2 := @fM
 refine Ra hl hf ?_
 rintro g1 s r hl hf
 obtain ⟨v3, h4, k1⟩ := bnk k0
 refine Ra hl hf ?_
 rintro g5 s r hl hf
 refine Ra hl hf ?_
 rintro g6 s r hl hf
 refine Rz r.2.2.2.2.1 k1 (fun c7 k1 => ?_) fun c7 k1 => ?_
 ·refine Ra hl hf ?_
  rintro g8 s r hl hf
  refine Rz r.2.2.1 k1 (fun c9 k1 => ?_) fun c9 k1 => ?_
  ·obtain ⟨v10, h11, k2⟩ := bnk k1
   refine Ra hl hf ?_
   rintro g12 s r hl hf
   refine Rz r.2.2.1 k2 (fun c13 k2 => ?_) fun c13 k2 => ?_
   ·obtain ⟨v14, h15, k3⟩ := bnk k2
    have q17 := (show A5 (om zL) 58 [Enc.enc a0, .nils] = _ from MO h15)
    refine Ra hl hf ?_
    rintro g16 s r hl hf
    cases oK k3
    exact ⟨Or.inr rfl, hl, CV (Be r.1 rfl) (AZ r.2.1)⟩
   have q19 := @Kr
   refine Ra hl hf ?_
   rintro g18 s r hl hf
   cases oK k2
   exact ⟨Or.inr rfl, hl, CV (Be r.1 rfl) (AZ r.2.1)⟩
  have q21 := @Kr
  refine Ra hl hf ?_
  rintro g20 s r hl hf
  cases oK k1
  exact ⟨Or.inr rfl, hl, CV (Be r.1 rfl) (AZ r.2.1)⟩
 have q23 := @Kr
 refine Ra hl hf ?_
 rintro g22 s r hl hf
 cases oK k1
 exact ⟨Or.inr rfl, hl, CV (Be r.1 rfl) (AZ r.2.1)⟩
def Pi := fun a0 a1 => Cq.mk (@W4 a0 a1)
theorem Jw {a0 : AH} {a1 : BR} {r : Int} (k0 : JZ a0 a1 = some r) : zj zL 117 [Enc.enc a0, Enc.enc a1] (.int r) := by
 unfold JZ at k0; replace k0 := kq k0
 refine fnN TC IE ?_
 rintro low s r hl hf
 refine Ra hl hf ?_
 rintro g1 s r hl hf
 obtain ⟨v2, h3, k1⟩ := bnk k0
 obtain ⟨v4, h5, k2⟩ := bnk k1
 have q7 := @nE
 have q8 := DT h3
 have q9 := DT h5
 refine Ra hl hf ?_ (h := by intro c; simp only [(MA a0 h3 h5), rt, ps, nob hf, *, reduceCtorEq, Nat.reduceEqDiff, Nat.reduceAdd, Nat.reduceMul] <;> rfl)
 rintro g6 s r hl hf
 cases oK k2
 exact ⟨Or.inr rfl, hl, AS (AZ r.1)⟩
def mV := fun a0 a1 => Cq.mk (@Jw a0 a1)
theorem JA {a0 : AH} {a1 : BR} {r : Int} (k0 : Io a0 a1 = some r) : zj zL 118 [Enc.enc a0, Enc.enc a1] (.int r) := by
 unfold Io at k0; replace k0 := kq k0
 refine fnN Q2 G4 ?_
 rintro low s r hl hf
 refine Ra hl hf ?_
 rintro g1 s r hl hf
 obtain ⟨v2, h3, k1⟩ := bnk k0
 obtain ⟨v4, h5, k2⟩ := bnk k1
 have q7 := DT h3
 have q8 := DT h5
 refine Ra hl hf ?_ (h := by intro c; simp only [(MA a0 h3 h5), rt, ps, nob hf, *, reduceCtorEq, Nat.reduceEqDiff, Nat.reduceAdd, Nat.reduceMul] <;> rfl)
 rintro g6 s r hl hf
 cases oK k2
 exact ⟨Or.inr rfl, hl, AS (AZ r.1)⟩
def li := fun a0 a1 => Cq.mk (@JA a0 a1)
theorem F5 {a0 : AH} {a1 : BR} {r : BJ} (k0 : DW a0 a1 = some r) : zj zL 52 [Enc.enc a0, Enc.enc a1] (Enc.enc r) := by
 unfold DW at k0; replace k0 := kq k0
 refine fnN PD Gq ?_
 rintro low s r hl hf
 have q2 := @ZJ
 refine Ra hl hf ?_
 rintro g1 s r hl hf
 obtain ⟨v4, h5, k1⟩ := bnk k0
 obtain ⟨v7, h8, k2⟩ := bnk k1
 have q10 := @H2
 have q12 := @yD
 obtain ⟨c3, hc3⟩ := Gt (LP := zL) (ds := [Enc.enc a0, Enc.enc a1]) (Jw h5); simp only [List.map_cons, List.map_nil] at hc3
 have q13 := @hc3
 have q15 := @yM
 obtain ⟨c6, hc6⟩ := Gt (LP := zL) (ds := [Enc.enc a0, Enc.enc a1]) (JA h8); simp only [List.map_cons, List.map_nil] at hc6
 have q16 := @hc6
 refine Ra hl hf ?_ (h := by intro c; simp only [(show ∀ (cs : List DV) (o : Nat), Og 1 2 (.d (.fptr cs o)) (.d (.int 0)) = some (.d (.fptr cs (o + 0))) from fun _ _ => rfl), (show ∀ (cs : List DV) (o : Nat), Og 1 2 (.d (.fptr cs o)) (.d (.int 1)) = some (.d (.fptr cs (o + 1))) from fun _ _ => rfl), rt, ps, nob hf, *, reduceCtorEq, Nat.reduceEqDiff, Nat.reduceAdd, Nat.reduceMul] <;> rfl)
 rintro g9 s r hl hf
 cases oK k2
 exact ⟨Or.inr rfl, hl, AS (Be r.1 rfl)⟩
def jO := fun a0 a1 => Cq.mk (@F5 a0 a1)
theorem YF {a0 : Int} {a1 : (Sl Int)} {r : Int} (k0 : Iy a0 a1 = some r) : zj zL 60 [.int a0, Enc.enc a1] (.int r) := by
 unfold Iy at k0; replace k0 := kq k0
 refine fnN LC KY ?_
 rintro low s r hl hf
 refine Ra hl hf ?_
 rintro g1 s r hl hf
 refine Ra hl hf ?_
 rintro g2 s r hl hf
 refine blk ?_
 obtain ⟨o6, l7, k1⟩ := bnk k0
 refine Bf (f := Hl a1) (E := fun (x : Int × Int) s => Em [I_ 0 x.1, E_ 7 a1, I_ 8 a1.len, I_ 9 x.2] s ∧ s.low = low ∧ NoB LC s) (Q := fun (y5 : Int) j s => j = .exit 0 ∧ Em [I_ 0 y5] s ∧ s.low = low ∧ NoB LC s) l7 ?_ ⟨r, hl, hf⟩ ?_
 ·rintro ⟨x3, x4⟩ s out ⟨r, hl, hf⟩ k2
  dsimp only at r
  simp only [Hl] at k2
  refine Ra hl hf ?_
  rintro g8 s r hl hf
  refine IJ r.2.2.2.2.1 k2 (fun c9 k2 => ?_) fun c9 k2 => ?_
  ·refine blk ?_
   obtain ⟨v10, h11, k3⟩ := bnk k2
   refine Ra hl hf ?_
   rintro g12 s r hl hf
   have q14 := @hU
   refine Ra hl hf ?_
   rintro g13 s r hl hf
   refine Ra hl hf ?_
   rintro g15 s r hl hf
   obtain rfl := oK k3
   exact ⟨rfl, r, hl, hf⟩
  obtain rfl := oK k2
  exact ⟨by decide, ⟨rfl, ⟨r.1, trivial⟩, hl, hf⟩⟩
 intro j s hq
 obtain ⟨y5, rfl⟩ : ∃ x, x = o6 := ⟨_, rfl⟩
 try dsimp only at k1 hq
 obtain ⟨rfl, r, hl, hf⟩ := hq
 refine Ra hl hf ?_
 rintro g16 s r hl hf
 cases oK k1
 exact ⟨Or.inr rfl, hl, AS (AZ r.1)⟩
def bQ := fun a0 a1 => Cq.mk (@YF a0 a1)
theorem Oi {a0 : AH} {r : BJ} (k0 : A3 a0 = some r) : zj zL 36 [Enc.enc a0] (Enc.enc r) := by
 unfold A3 at k0; replace k0 := kq k0
 refine fnN Gv QT ?_
 rintro low s r hl hf
 have q38 := @bQ
 have q2 := @ZJ
 refine Ra hl hf ?_
 rintro g1 s r hl hf
 obtain ⟨v4, h5, k1⟩ := bnk k0
 have q7 := @Hy
 obtain ⟨c3, hc3⟩ := Gt (LP := zL) (ds := [Enc.enc a0, Enc.enc (BR.mk 5 0)]) (F5 h5); simp only [List.map_cons, List.map_nil] at hc3
 have q8 := @hc3
 refine Ra hl hf ?_
 rintro g6 s r hl hf
 refine Ra hl hf ?_
 rintro g9 s r hl hf
 refine blk ?_
 obtain ⟨o13, l14, k2⟩ := bnk k1
 refine Bf (f := C9 a0) (E := fun (x : BJ × Int) s => Em [C_ 1 g1 a0, C_ 2 (g1 + 1) (BJ.mk 0 0), C_ 3 (g6 + 1 + 1 + 1) x.1, I_ 11 a0.OrganBook.Pipes, I_ 12 x.2] s ∧ s.low = low ∧ NoB Gv s) (Q := fun (y12 : BJ) j s => j = .exit 0 ∧ Em [C_ 1 g1 a0, C_ 2 (g1 + 1) (BJ.mk 0 0), C_ 3 (g6 + 1 + 1 + 1) y12] s ∧ s.low = low ∧ NoB Gv s) l14 ?_ ⟨r, hl, hf⟩ ?_
 ·rintro ⟨x10, x11⟩ s out ⟨r, hl, hf⟩ k3
  dsimp only at r
  simp only [C9] at k3
  refine Ra hl hf ?_
  rintro g15 s r hl hf
  refine IJ r.2.2.2.2.2.1 k3 (fun c16 k3 => ?_) fun c16 k3 => ?_
  ·refine blk <| Ra hl hf ?_
   rintro g17 s r hl hf
   obtain ⟨v19, h20, k4⟩ := bnk k3
   have q22 := @Jv
   obtain ⟨c18, hc18⟩ := Gt (LP := zL) (ds := [Enc.enc a0, Enc.enc (BR.mk 5 x11)]) (F5 h20); simp only [List.map_cons, List.map_nil] at hc18
   have q23 := @hc18
   refine Ra hl hf ?_
   rintro g21 s r hl hf
   obtain ⟨v24, h25, k5⟩ := bnk k4
   have q27 := @H2
   have q28 := @ox
   refine Ra hl hf ?_
   rintro g26 s r hl hf
   refine Ra hl hf ?_
   rintro g29 s r hl hf
   obtain rfl := oK k5
   exact ⟨rfl, r, hl, hf⟩
  obtain rfl := oK k3
  exact ⟨by decide, ⟨rfl, ⟨r.1, r.2.1, r.2.2.1, trivial⟩, hl, hf⟩⟩
 intro j s hq
 obtain ⟨y12, rfl⟩ : ∃ x, x = o13 := ⟨_, rfl⟩
 try dsimp only at k2 hq
 obtain ⟨rfl, r, hl, hf⟩ := hq
 obtain ⟨v30, h31, k6⟩ := bnk k2
 obtain ⟨v32, h33, k7⟩ := bnk k6
 have q35 := @H2
 have q36 := bv h31
 have q37 := bv h33
 refine Ra hl hf ?_
 rintro g34 s r hl hf
 cases oK k7
 exact ⟨Or.inr rfl, hl, AS (Be r.1 rfl)⟩
def JF := fun a0 => Cq.mk (@Oi a0)
theorem W8 {a0 : VoiceBook} {a1 : Bool} {r : (AA × Int)} (k0 : B9 a0 a1 = some r) : zj zL 76 [Enc.enc a0, .bool a1] (Enc.enc r) := by
 unfold B9 at k0; replace k0 := kq k0
 refine fnN ay an ?_
 rintro low s r hl hf
 have q24 := @Gl
 have q25 := @Ie
 have q2 := @L8
 refine Ra hl hf ?_
 rintro g1 s r hl hf
 obtain ⟨v3, h4, k1⟩ := bnk k0
 refine Ra hl hf ?_
 rintro g5 s r hl hf
 refine Ra hl hf ?_
 rintro g6 s r hl hf
 refine Rz r.2.2.2.2.1 k1 (fun c7 k1 => ?_) fun c7 k1 => ?_
 ·refine Ra hl hf ?_
  rintro g8 s r hl hf
  refine Rz r.2.2.1 k1 (fun c9 k1 => ?_) fun c9 k1 => ?_
  ·obtain ⟨v10, h11, k2⟩ := bnk k1
   have q13 := zj.call (LP := zL) (ds := [Enc.enc a0, .nils]) (I3 h11)
   refine Ra hl hf ?_
   rintro g12 s r hl hf
   obtain ⟨v14, h15, k3⟩ := bnk k2
   refine Ra hl hf ?_
   rintro g16 s r hl hf
   refine Rz r.2.2.1 k3 (fun c17 k3 => ?_) fun c17 k3 => ?_
   ·refine Ra hl hf ?_
    rintro g18 s r hl hf
    cases oK k3
    exact ⟨Or.inr rfl, hl, CV (Be r.1 rfl) (AZ r.2.1)⟩
   refine Ra hl hf ?_
   rintro g19 s r hl hf
   cases oK k3
   exact ⟨Or.inr rfl, hl, CV (Be r.1 rfl) (AZ r.2.1)⟩
  have q21 := @QN
  refine Ra hl hf ?_
  rintro g20 s r hl hf
  cases oK k1
  exact ⟨Or.inr rfl, hl, CV (Be r.1 rfl) (AZ r.2.1)⟩
 have q23 := @QN
 refine Ra hl hf ?_
 rintro g22 s r hl hf
 cases oK k1
 exact ⟨Or.inr rfl, hl, CV (Be r.1 rfl) (AZ r.2.1)⟩
def Zl := fun a0 a1 => Cq.mk (@W8 a0 a1)
theorem Jn {a0 : AA} {a1 : Int} {a2 : (Ar 5 Int)} {a3 : Int} {r : Int} (k0 : Di a0 a1 a2 a3 = some r) : zj zL 99 [Enc.enc a0, .int a1, Enc.enc a2, .int a3] (.int r) := by
 unfold Di at k0; replace k0 := kq k0
 refine fnN LI Fe ?_
 rintro low s r hl hf
 have q20 := @Ks
 refine Ra hl hf ?_
 rintro g1 s r hl hf
 obtain ⟨v2, h3, k1⟩ := bnk k0
 obtain ⟨v4, h5, k2⟩ := bnk k1
 have q7 := DT h3
 have q8 := Cf h3 rfl rfl
 refine Ra hl hf ?_
 rintro g6 s r hl hf
 obtain ⟨v9, h10, k3⟩ := bnk k2
 obtain ⟨v11, h12, k4⟩ := bnk k3
 obtain ⟨v13, h14, k5⟩ := bnk k4
 have q16 := DT h10
 have q17 := Cf h10 rfl rfl
 have q18 := DT h12
 have q19 := Cf h12 rfl rfl
 refine Ra hl hf ?_
 rintro g15 s r hl hf
 cases oK k5
 exact ⟨Or.inr rfl, hl, AS (AZ r.1)⟩
def mU := fun a0 a1 a2 a3 => Cq.mk (@Jn a0 a1 a2 a3)
theorem Jo {a0 : AA} {a1 : Int} {a2 : (Ar 5 Int)} {a3 : Int} {a4 : Int} {r : Bool} (k0 : C0 a0 a1 a2 a3 a4 = some r) : zj zL 93 [Enc.enc a0, .int a1, Enc.enc a2, .int a3, .int a4] (.bool r) := by
 unfold C0 at k0; replace k0 := kq k0
 refine fnN LK Ff ?_
 rintro low s r hl hf
 have q22 := @Dq
 refine Ra hl hf ?_
 rintro g1 s r hl hf
 obtain ⟨o11, q12, k1⟩ := bnk k0
 refine lH [B_ 10 o11] hl hf ?_ ?_
 ·by_cases c2 : (decide (Bj.key a2 = Bj.key (⟨[(-1), (-1), (-1), (-1), (-1)], rfl⟩ : (Ar 5 Int)))) = true
  ·rw [if_pos c2] at q12
   have e1 := oI q12
   simp only [rs, ps, MF, Me, hl, nob hf, r, OW, c2, ← e1, reduceCtorEq, Nat.reduceEqDiff, Nat.reduceAdd]
  rw [if_neg c2] at q12
  have c2 := eq_false_of_ne_true c2
  obtain ⟨v3, h4, q19⟩ := bnd q12
  by_cases c5 : (decide (a3 < v3)) = true
  ·rw [if_pos c5] at q19
   obtain ⟨v6, h7, q20⟩ := bnd q19
   obtain ⟨v9, h10, q21⟩ := bnd q20
   have e1 := oI q21
   obtain ⟨c8, hc8⟩ := Gt (LP := zL) (ds := [Enc.enc a0, .int a1, Enc.enc a2, .int a3]) (Jn h10); simp only [List.map_cons, List.map_nil] at hc8
   simp only [rs, ps, MF, Me, hl, nob hf, r, OW, c2, (DT h4), (Cf h4 rfl rfl), c5, (DT h7), (Cf h7 rfl rfl), hc8, (It a4 v6 v9).call, ← e1, reduceCtorEq, Nat.reduceEqDiff, Nat.reduceAdd]
  rw [if_neg c5] at q19
  have c5 := eq_false_of_ne_true c5
  have e1 := oI q19
  simp only [rs, ps, MF, Me, hl, nob hf, r, OW, c2, (DT h4), (Cf h4 rfl rfl), c5, ← e1, reduceCtorEq, Nat.reduceEqDiff, Nat.reduceAdd]
 rintro s r hl hf
 cases oK k1
 exact ⟨Or.inr rfl, hl, AS (AZ r.1)⟩
def mW := fun a0 a1 a2 a3 a4 => Cq.mk (@Jo a0 a1 a2 a3 a4)
theorem Ol {a0 : AA} {a1 : Int} {a2 : Int} {a3 : Int} {r : Aa} (k0 : CW a0 a1 a2 a3 = some r) : zj zL 77 [Enc.enc a0, .int a1, .int a2, .int a3] (Enc.enc r) := by
 unfold CW at k0; replace k0 := kq k0
 refine fnN Gj PE ?_
 rintro low s r hl hf
 have q2 := @cV
 refine Ra hl hf ?_
 rintro g1 s r hl hf
 obtain ⟨v3, h4, k1⟩ := bnk k0
 have q6 := @TG
 refine Ra hl hf ?_
 rintro g5 s r hl hf
 have q8 := @JG
 have q9 := fun s ro => j3 (n := 2) s ro a0.whole (Ad.mk a1 a2) (Sl.nil : (Sl (Ar 5 Int))) (.nils) rfl (by decide) rfl
 refine Ra hl hf ?_
 rintro g7 s r hl hf
 refine blk ?_
 obtain ⟨o13, l14, k2⟩ := bnk k1
 refine Bf (f := BL a0 a1 a2 a3) (E := fun (x : Aa × Int) s => Em [I_ 1 a1, I_ 2 a2, I_ 3 a3, C_ 4 g1 a0, C_ 8 (g1 + 1) (Aa.mk 0 0), C_ 9 (g5 + 1 + 1 + 1 + 1 + 1 + 1 + 1) x.1, E_ 24 ((Mp.get a0.whole (Bj.key (Ad.mk a1 a2))).getD (Sl.nil : (Sl (Ar 5 Int)))), I_ 25 (((Mp.get a0.whole (Bj.key (Ad.mk a1 a2))).getD (Sl.nil : (Sl (Ar 5 Int)))).len), I_ 26 x.2] s ∧ s.low = low ∧ NoB Gj s) (Q := fun (y12 : Aa) j s => j = .exit 0 ∧ Em [C_ 4 g1 a0, C_ 8 (g1 + 1) (Aa.mk 0 0), C_ 9 (g5 + 1 + 1 + 1 + 1 + 1 + 1 + 1) y12] s ∧ s.low = low ∧ NoB Gj s) l14 ?_ ⟨r, hl, hf⟩ ?_
 ·rintro ⟨x10, x11⟩ s out ⟨r, hl, hf⟩ k3
  dsimp only at r
  simp only [BL] at k3
  refine Ra hl hf ?_
  rintro g15 s r hl hf
  refine IJ r.2.2.2.2.2.2.2.2.2.1 k3 (fun c16 k3 => ?_) fun c16 k3 => ?_
  ·refine blk ?_
   obtain ⟨v17, h18, k4⟩ := bnk k3
   refine Ra hl hf ?_
   rintro g19 s r hl hf
   obtain ⟨v21, h22, k5⟩ := bnk k4
   obtain ⟨c20, hc20⟩ := Gt (LP := zL) (ds := [Enc.enc a0, .int a1, Enc.enc v17, .int a2, .int a3]) (Jo h22); simp only [List.map_cons, List.map_nil] at hc20
   have q24 := @hc20
   refine Ra hl hf ?_
   rintro g23 s r hl hf
   refine IJ r.2.2.2.2.2.2.2.2.2.1 k5 (fun c25 k5 => ?_) fun c25 k5 => ?_
   ·refine Ra hl hf ?_
    rintro g26 s r hl hf
    refine Ra hl hf ?_
    rintro g27 s r hl hf
    obtain rfl := oK k5
    exact ⟨rfl, r, hl, hf⟩
   refine Ra hl hf ?_
   rintro g28 s r hl hf
   obtain rfl := oK k5
   exact ⟨rfl, r, hl, hf⟩
  obtain rfl := oK k3
  exact ⟨by decide, ⟨rfl, ⟨r.2.2.2.1, r.2.2.2.2.1, r.2.2.2.2.2.1, trivial⟩, hl, hf⟩⟩
 intro j s hq
 obtain ⟨y12, rfl⟩ : ∃ x, x = o13 := ⟨_, rfl⟩
 try dsimp only at k2 hq
 obtain ⟨rfl, r, hl, hf⟩ := hq
 refine Ra hl hf ?_
 rintro g29 s r hl hf
 cases oK k2
 exact ⟨Or.inr rfl, hl, AS (Be r.1 rfl)⟩
def QH := fun a0 a1 a2 a3 => Cq.mk (@Ol a0 a1 a2 a3)
theorem Im (a0 : Aa) : zj zL 119 [Enc.enc a0] (.bool (Fb a0)) := by
 refine fnN PR QL ?_
 rintro low s r hl hf
 refine Ra hl hf ?_
 rintro g1 s r hl hf
 refine Ra hl hf ?_
 rintro g2 s r hl hf
 exact ⟨Or.inr rfl, hl, AS (AZ r.1)⟩
def Oz := fun a0 => (Im a0).call
theorem Il (a0 : Aa) : zj zL 120 [Enc.enc a0] (.bool (Fg a0)) := by
 refine fnN QZ QJ ?_
 rintro low s r hl hf
 refine Ra hl hf ?_
 rintro g1 s r hl hf
 refine Ra hl hf ?_
 rintro g2 s r hl hf
 exact ⟨Or.inr rfl, hl, AS (AZ r.1)⟩
def jh := fun a0 => (Il a0).call
theorem NT {a0 : Aa} {r : Int} (k0 : B8 a0 = some r) : zj zL 78 [Enc.enc a0] (.int r) := by
 unfold B8 at k0; replace k0 := kq k0
 refine fnN F2 N4 ?_
 rintro low s r hl hf
 have q23 := @Oz
 refine Ra hl hf ?_
 rintro g1 s r hl hf
 refine Ra hl hf ?_
 rintro g2 s r hl hf
 have q4 := @tP
 refine Ra hl hf ?_
 rintro g3 s r hl hf
 refine blk ?_
 obtain ⟨o8, l9, k1⟩ := bnk k0
 refine Bf (f := Av a0) (E := fun (x : Int × Int) s => Em [C_ 1 g1 a0, I_ 3 x.1, (6, .v (.d (.agg [.fn 119 [] [], .fn 120 [] []]))), I_ 7 x.2] s ∧ s.low = low ∧ NoB F2 s) (Q := fun (y7 : Int) j s => j = .exit 0 ∧ Em [C_ 1 g1 a0, I_ 3 y7] s ∧ s.low = low ∧ NoB F2 s) l9 ?_ ⟨r, hl, hf⟩ ?_
 ·rintro ⟨x5, x6⟩ s out ⟨r, hl, hf⟩ k2
  dsimp only at r
  simp only [Av] at k2
  refine Ra hl hf ?_
  rintro g10 s r hl hf
  refine IJ r.2.2.2.2.1 k2 (fun c11 k2 => ?_) fun c11 k2 => ?_
  ·refine blk ?_
   obtain ⟨v12, h13, k3⟩ := bnk k2
   refine Ra hl hf ?_ (h := by intro c; simp only [(uh (x := .fn 119 [] []) (y := .fn 120 [] []) h13), rt, ps, nob hf, *, reduceCtorEq, Nat.reduceEqDiff, Nat.reduceAdd, Nat.reduceMul] <;> rfl)
   rintro g14 s r hl hf
   refine lH [C_ 1 g1 a0, I_ 3 x5, (6, .v (.d (.agg [.fn 119 [] [], .fn 120 [] []]))), I_ 7 x6, B_ 12 (if v12 then (Fg a0) else (Fb a0))] hl hf ?_ ?_
   ·cases c16 : v12
    ·simp only [rs, ps, sh, sj, hl, nob hf, r, c16, (Im a0).call, reduceCtorEq, Nat.reduceEqDiff, Nat.reduceAdd]
    simp only [rs, ps, sh, sj, hl, nob hf, r, c16, (Il a0).call, reduceCtorEq, Nat.reduceEqDiff, Nat.reduceAdd]
   rintro s r hl hf
   refine IJ r.2.2.2.2.1 k3 (fun c18 k3 => ?_) fun c18 k3 => ?_
   ·refine Ra hl hf ?_
    rintro g19 s r hl hf
    refine Ra hl hf ?_
    rintro g20 s r hl hf
    obtain rfl := oK k3
    exact ⟨rfl, r, hl, hf⟩
   refine Ra hl hf ?_
   rintro g21 s r hl hf
   obtain rfl := oK k3
   exact ⟨rfl, r, hl, hf⟩
  obtain rfl := oK k2
  exact ⟨by decide, ⟨rfl, ⟨r.1, r.2.1, trivial⟩, hl, hf⟩⟩
 intro j s hq
 obtain ⟨y7, rfl⟩ : ∃ x, x = o8 := ⟨_, rfl⟩
 try dsimp only at k1 hq
 obtain ⟨rfl, r, hl, hf⟩ := hq
 refine Ra hl hf ?_
 rintro g22 s r hl hf
 cases oK k1
 exact ⟨Or.inr rfl, hl, AS (AZ r.1)⟩
def N2 := fun a0 => Cq.mk (@NT a0)
theorem YC {a0 : VoiceBook} {a1 : Int} {a2 : Int} {a3 : Int} {r : (Int × Int)} (k0 : EK a0 a1 a2 a3 = some r) : zj zL 59 [Enc.enc a0, .int a1, .int a2, .int a3] (Enc.enc r) := by
 unfold EK at k0; replace k0 := kq k0
 refine fnN bF Z6 ?_
 rintro low s r hl hf
 have q22 := @Zl
 have q23 := @QH
 have q24 := @Pm
 have q25 := @Nz
 have q26 := @Nu
 have q27 := @N2
 refine Ra hl hf ?_
 rintro g1 s r hl hf
 obtain ⟨⟨o10, o11⟩, q, k1⟩ := bnk k0
 try dsimp only at k1
 refine Rq (fun g13 => [C_ 10 (g13 + 1 + 1 + 1 + 1 + 1 + 1 + 1 + 1 + 1 + 1 + 1 + 1 + 1 + 1 + 1 + 1 + 1) o10, I_ 11 o11]) hl hf q ?_
 rintro g13 s r hl hf
 refine Ra hl hf ?_
 rintro g14 s r hl hf
 refine Rz r.2.2.2.2.2.1 k1 (fun c15 k1 => ?_) fun c15 k1 => ?_
 ·obtain ⟨v16, h17, k2⟩ := bnk k1
  obtain ⟨v18, h19, k3⟩ := bnk k2
  refine Ra hl hf ?_
  rintro g20 s r hl hf
  cases oK k3
  exact ⟨Or.inr rfl, hl, CV (AZ r.1) (AZ r.2.1)⟩
 refine Ra hl hf ?_
 rintro g21 s r hl hf
 cases oK k1
 exact ⟨Or.inr rfl, hl, CV (AZ r.1) (AZ r.2.1)⟩
def PX := fun a0 a1 a2 a3 => Cq.mk (@YC a0 a1 a2 a3)
theorem QQ {a0 : AH} {a1 : AC} {a2 : Int} {a3 : Int} {a4 : BJ} {r : Bool} (k0 : DK a0 a1 a2 a3 a4 = some r) : zj zL 35 [Enc.enc a0, Enc.enc a1, .int a2, .int a3, Enc.enc a4] (.bool r) := by
 unfold DK at k0; replace k0 := kq k0
 refine fnN HH J2 ?_
 rintro low s r hl hf
 have q19 := @PX
 refine Ra hl hf ?_
 rintro g1 s r hl hf
 refine Ra hl hf ?_
 rintro g2 s r hl hf
 refine blk ?_
 obtain ⟨o5, l6, k1⟩ := bnk k0
 refine Bf (f := BW a0 a1 a2 a3 a4) (E := fun (x : Int) s => Em [I_ 2 a2, I_ 3 a3, C_ 5 g1 a0, C_ 6 (g1 + 1) a1, C_ 9 (g1 + 1 + 1) a4, I_ 11 x] s ∧ s.low = low ∧ NoB HH s) (Q := fun (o : ((Bool) ⊕ (Unit))) j s => match o with | .inl w4 => j = .ret ∧ FnJ J2.1 low (.d (.bool w4)) .ret s | .inr _ => j = .exit 0 ∧ Em [C_ 5 g1 a0, C_ 6 (g1 + 1) a1, C_ 9 (g1 + 1 + 1) a4] s ∧ s.low = low ∧ NoB HH s) l6 ?_ ⟨r, hl, hf⟩ ?_
 ·rintro x3 s out ⟨r, hl, hf⟩ k2
  unfold BW at k2
  refine Ra hl hf ?_
  rintro g7 s r hl hf
  refine IJ r.2.2.2.2.2.2.1 k2 (fun c8 k2 => ?_) fun c8 k2 => ?_
  ·refine blk ?_
   obtain ⟨v9, h10, k3⟩ := bnk k2
   refine Ra hl hf ?_
   rintro g11 s r hl hf
   refine Rx (fun g14 => [B_ 50 (if (decide (v9.2 = 0)) then (!(decide (v9.1 = 2))) else true)]) hl hf ?_
   rintro g14 s r hl hf
   refine IJ r.2.2.2.2.2.2.1 k3 (fun c15 k3 => ?_) fun c15 k3 => ?_
   ·refine Ra hl hf ?_
    rintro g16 s r hl hf
    obtain rfl := oK k3
    exact ⟨by decide, ⟨rfl, ⟨Or.inr rfl, hl, AS (AZ r.1)⟩⟩⟩
   refine Ra hl hf ?_
   rintro g17 s r hl hf
   obtain rfl := oK k3
   exact ⟨rfl, r, hl, hf⟩
  obtain rfl := oK k2
  exact ⟨by decide, ⟨rfl, ⟨r.2.2.1, r.2.2.2.1, r.2.2.2.2.1, trivial⟩, hl, hf⟩⟩
 intro j s hq
 rcases o5 with w4 | _
 ·try dsimp only at k1 hq
  obtain ⟨rfl, hq⟩ := hq
  cases oK k1
  exact hq
 try dsimp only at k1 hq
 obtain ⟨rfl, r, hl, hf⟩ := hq
 refine Ra hl hf ?_
 rintro g18 s r hl hf
 cases oK k1
 exact ⟨Or.inr rfl, hl, AS (AZ r.1)⟩
def RL := fun a0 a1 a2 a3 a4 => Cq.mk (@QQ a0 a1 a2 a3 a4)
theorem aU {a0 : OrganBook} {a1 : Int} {a2 : (Sl AC)} {r : ((Sl Int) × Int)} (k0 : Bw a0 a1 a2 = some r) : zj zL 9 [Enc.enc a0, .int a1, Enc.enc a2] (Enc.enc r) := by
 unfold Bw at k0; replace k0 := kq k0
 refine fnN F9 cq ?_
 rintro low s r hl hf
 have q59 := @Pi
 have q60 := @JF
 have q61 := @RL
 have q62 := @Ek
 refine Ra hl hf ?_
 rintro g1 s r hl hf
 obtain ⟨o6, q7, k1⟩ := bnk k0
 refine lH [I_ 1 a1, E_ 2 a2, C_ 3 g1 a0, B_ 8 o6] hl hf ?_ ?_
 ·by_cases c2 : (Aj a2.len 1 4) = true
  ·rw [if_pos c2] at q7
   obtain ⟨v3, h4, q58⟩ := bnd q7
   have e1 := oI q58
   have f5 : ∀ (e : Env) (c : Nat) (z0 : Env.get 3 e = some (.box g1 ((Enc.cells a0).map LV.d))), (om zL).call 31 [.d (Enc.enc a2), .fn 32 [] [.ptr low.length 3 g1 0]] (low ++ [⟨e, none⟩]) c = some (.d (.bool (v3)), low ++ [⟨e, none⟩], f8 zL 31 [.d (Enc.enc a2), .fn 32 [] [.ptr low.length 3 g1 0]] (low ++ [⟨e, none⟩]) c) := fun e c z0 => Ou.om (D7 (Z2 z0) h4) c
   simp only [rs, hl, nob hf, r, (Ip a2.len 1 4).call, c2, f5, ← e1, reduceCtorEq, Nat.reduceEqDiff, Nat.reduceAdd]
  rw [if_neg c2] at q7
  have c2 := eq_false_of_ne_true c2
  have e1 := oI q7
  simp only [rs, hl, nob hf, r, (Ip a2.len 1 4).call, c2, ← e1, reduceCtorEq, Nat.reduceEqDiff, Nat.reduceAdd]
 rintro s r hl hf
 obtain ⟨⟨o14, o15⟩, q, k2⟩ := bnk k1
 try dsimp only at k2
 refine Rq (fun g17 => [C_ 9 (g17 + 1 + 1 + 1 + 1 + 1 + 1 + 1 + 1 + 1 + 1 + 1 + 1 + 1 + 1) o14, I_ 10 o15]) hl hf q ?_
 rintro g17 s r hl hf
 refine Ra hl hf ?_
 rintro g18 s r hl hf
 refine Rz r.2.2.2.2.1 k2 (fun c19 k2 => ?_) fun c19 k2 => ?_
 ·refine Ra hl hf ?_
  rintro g20 s r hl hf
  obtain ⟨v21, h22, k3⟩ := bnk k2
  refine Ra hl hf ?_
  rintro g23 s r hl hf
  refine Ra hl hf ?_
  rintro g24 s r hl hf
  refine blk ?_
  obtain ⟨o28, l29, k4⟩ := bnk k3
  refine Bf (f := Db a1 a2 o14 v21) (E := fun (x : (Sl Int) × Int) s => Em [I_ 1 a1, E_ 2 a2, (11, .v (Sl.lv x.1)), (12, .v (.d (.fn 35 [Enc.enc o14] []))), C_ 13 (g23 + 1 + 1 + 1 + 1) v21, I_ 14 x.2] s ∧ s.low = low ∧ NoB F9 s) (Q := fun (y27 : (Sl Int)) j s => j = .exit 0 ∧ Em [(11, .v (Sl.lv y27)), C_ 13 (g23 + 1 + 1 + 1 + 1) v21] s ∧ s.low = low ∧ NoB F9 s) l29 ?_ ⟨r, hl, hf⟩ ?_
  ·rintro ⟨x25, x26⟩ s out ⟨r, hl, hf⟩ k5
   dsimp only at r
   simp only [Db] at k5
   refine Ra hl hf ?_
   rintro g30 s r hl hf
   refine IJ r.2.2.2.2.2.2.1 k5 (fun c31 k5 => ?_) fun c31 k5 => ?_
   ·refine blk <| Ra hl hf ?_
    rintro g32 s r hl hf
    refine blk ?_
    obtain ⟨o34, l35, k6⟩ := bnk k5
    refine Bf (f := Ci a1 a2 o14 v21 x26) (E := fun (x : Int) s => Em [I_ 1 a1, E_ 2 a2, (11, .v (Sl.lv x25)), (12, .v (.d (.fn 35 [Enc.enc o14] []))), C_ 13 (g23 + 1 + 1 + 1 + 1) v21, I_ 14 x26, E_ 51 a2, I_ 52 a2.len, I_ 53 x] s ∧ s.low = low ∧ NoB F9 s) (Q := fun (o : ((Unit) ⊕ (Unit))) j s => match o with | .inl _ => j = .exit 1 ∧ Em [I_ 1 a1, E_ 2 a2, (11, .v (Sl.lv x25)), (12, .v (.d (.fn 35 [Enc.enc o14] []))), C_ 13 (g23 + 1 + 1 + 1 + 1) v21, I_ 14 x26] s ∧ s.low = low ∧ NoB F9 s | .inr _ => j = .exit 2 ∧ Em [I_ 1 a1, E_ 2 a2, (11, .v (Sl.lv x25)), (12, .v (.d (.fn 35 [Enc.enc o14] []))), C_ 13 (g23 + 1 + 1 + 1 + 1) v21, I_ 14 x26] s ∧ s.low = low ∧ NoB F9 s) l35 ?_ ⟨r, hl, hf⟩ ?_
    ·rintro x33 s out ⟨r, hl, hf⟩ k7
     unfold Ci at k7
     refine Ra hl hf ?_
     rintro g36 s r hl hf
     refine IJ r.2.2.2.2.2.2.2.2.2.1 k7 (fun c37 k7 => ?_) fun c37 k7 => ?_
     ·refine blk ?_
      obtain ⟨v38, h39, k8⟩ := bnk k7
      refine Ra hl hf ?_
      rintro g40 s r hl hf
      obtain ⟨v41, h42, k9⟩ := bnk k8
      refine Ra hl hf ?_
      rintro g43 s r hl hf
      refine Rz r.2.2.2.2.2.2.2.2.2.1 k9 (fun c44 k9 => ?_) fun c44 k9 => ?_
      ·refine Ra hl hf ?_
       rintro g45 s r hl hf
       obtain rfl := oK k9
       exact ⟨rfl, r, hl, hf⟩
      obtain rfl := oK k9
      exact ⟨by decide, ⟨rfl, ⟨r.1, r.2.1, r.2.2.1, r.2.2.2.1, r.2.2.2.2.1, r.2.2.2.2.2.1, trivial⟩, hl, hf⟩⟩
     obtain rfl := oK k7
     exact ⟨by decide, ⟨rfl, ⟨r.1, r.2.1, r.2.2.1, r.2.2.2.1, r.2.2.2.2.1, r.2.2.2.2.2.1, trivial⟩, hl, hf⟩⟩
    intro j s hq
    rcases o34 with _ | _
    ·try dsimp only at k6 hq
     obtain ⟨rfl, r, hl, hf⟩ := hq
     refine Ra hl hf ?_
     rintro g46 s r hl hf
     obtain rfl := oK k6
     exact ⟨rfl, r, hl, hf⟩
    try dsimp only at k6 hq
    obtain ⟨rfl, r, hl, hf⟩ := hq
    obtain ⟨v47, h48, k10⟩ := bnk k6
    have q50 := OI (sz := 1) (x := x25) (y := (Sl.cold [x26] : Sl Int)) rfl rfl h48
    refine Ra hl hf ?_
    rintro g49 s r hl hf
    refine Ra hl hf ?_
    rintro g51 s r hl hf
    obtain rfl := oK k10
    exact ⟨rfl, r, hl, hf⟩
   obtain rfl := oK k5
   exact ⟨by decide, ⟨rfl, ⟨r.2.2.1, r.2.2.2.2.1, trivial⟩, hl, hf⟩⟩
  intro j s hq
  obtain ⟨y27, rfl⟩ : ∃ x, x = o28 := ⟨_, rfl⟩
  try dsimp only at k4 hq
  obtain ⟨rfl, r, hl, hf⟩ := hq
  obtain ⟨v52, h53, k11⟩ := bnk k4
  have q55 := @dV
  have q56 := de (sz := 1) rfl h53
  refine Ra hl hf ?_
  rintro g54 s r hl hf
  cases oK k11
  exact ⟨Or.inr rfl, hl, CV (jx r.1) (AZ r.2.1)⟩
 refine Ra hl hf ?_
 rintro g57 s r hl hf
 cases oK k2
 exact ⟨Or.inr rfl, hl, CV (AZ r.1) (AZ r.2.1)⟩
def Ld := fun a0 a1 a2 => Cq.mk (@aU a0 a1 a2)
theorem Zy (a0 : BJ) (a1 : BJ) : zj zL 40 [Enc.enc a0, Enc.enc a1] (Enc.enc (NF a0 a1)) := by
 refine fnN d5 fj ?_
 rintro low s r hl hf
 have q4 := @He
 have q2 := @ZJ
 refine Ra hl hf ?_
 rintro g1 s r hl hf
 refine Ra hl hf ?_
 rintro g3 s r hl hf
 exact ⟨Or.inr rfl, hl, AS (Be r.1 rfl)⟩
def fb := fun a0 a1 => (Zy a0 a1).call
theorem YS {a0 : VoiceBook} {a1 : Int} {a2 : (Sl AC)} {a3 : Int} {r : BenchBook} (k0 : Df a0 a1 a2 a3 = some r) : zj zL 16 [Enc.enc a0, .int a1, Enc.enc a2, .int a3] (Enc.enc r) := by
 unfold Df at k0; replace k0 := kq k0
 refine fnN K4 Zp ?_
 rintro low s r hl hf
 have q24 := @MK
 have q25 := @fb
 have q2 := @gY
 refine Ra hl hf ?_
 rintro g1 s r hl hf
 refine Ra hl hf ?_
 rintro g3 s r hl hf
 refine Ra hl hf ?_
 rintro g4 s r hl hf
 refine blk ?_
 obtain ⟨o8, l9, k1⟩ := bnk k0
 refine Bf (f := Ei a1 a2 a3) (E := fun (x : BenchBook × Int) s => Em [I_ 1 a1, E_ 2 a2, I_ 3 a3, C_ 8 (g1 + 1) (BenchBook.mk (VoiceBook.mk (Sl.nil : (Sl AK)) 0 (Sl.nil : (Sl AI))) (Sl.nil : (Sl AL)) 0), (9, .box (g3 + 1 + 1) (Ba x.1)), I_ 10 x.2] s ∧ s.low = low ∧ NoB K4 s) (Q := fun (y7 : BenchBook) j s => j = .exit 0 ∧ Em [C_ 8 (g1 + 1) (BenchBook.mk (VoiceBook.mk (Sl.nil : (Sl AK)) 0 (Sl.nil : (Sl AI))) (Sl.nil : (Sl AL)) 0), (9, .box (g3 + 1 + 1) (Ba y7))] s ∧ s.low = low ∧ NoB K4 s) l9 ?_ ⟨⟨r.1, r.2.1, r.2.2.1, r.2.2.2.1, (wW r.2.2.2.2.1 (Q0 (BenchBook.mk a0 (Sl.nil : (Sl AL)) 1))), r.2.2.2.2.2.1, trivial⟩, hl, hf⟩ ?_
 ·rintro ⟨x5, x6⟩ s out ⟨r, hl, hf⟩ k2
  dsimp only at r
  simp only [Ei] at k2
  refine Ra hl hf ?_
  rintro g10 s r hl hf
  refine IJ r.2.2.2.2.2.2.1 k2 (fun c11 k2 => ?_) fun c11 k2 => ?_
  ·refine blk ?_
   obtain ⟨v12, h13, k3⟩ := bnk k2
   obtain ⟨v14, h15, k4⟩ := bnk k3
   have q17 := @Zb
   have q19 := OI (sz := 2) (x := x5.Pieces.unf) (y := (Sl.cold [(AL.mk a1 (Sl.cold [(A4.mk (NF v12.Notes (D5 a3)) 1)] : Sl A4))] : Sl AL)) rfl rfl h15
   refine Ra hl hf ?_ (h := by intro c; simp only [(SK (LP := zL) (j := low.length) (t := 9) (gb := g3 + 1 + 1) (off := 3) (cs := (Ba x5)) (cs' := (Ba (BenchBook.mk x5.Voice x5.Pieces.cool x5.Most))) (x := x5.Pieces) (hx := rfl) (hc := NV x5)), (NY (oe h15 (by simp))), rt, ps, nob hf, *, reduceCtorEq, Nat.reduceEqDiff, Nat.reduceAdd, Nat.reduceMul] <;> rfl)
   rintro g16 s r hl hf
   refine Ra hl hf ?_
   rintro g21 s r hl hf
   obtain rfl := oK k4
   exact ⟨rfl, r, hl, hf⟩
  obtain rfl := oK k2
  exact ⟨by decide, ⟨rfl, ⟨r.2.2.2.1, r.2.2.2.2.1, trivial⟩, hl, hf⟩⟩
 intro j s hq
 obtain ⟨y7, rfl⟩ : ∃ x, x = o8 := ⟨_, rfl⟩
 try dsimp only at k1 hq
 obtain ⟨rfl, r, hl, hf⟩ := hq
 have q23 := @K3
 refine Ra hl hf ?_
 rintro g22 s r hl hf
 cases oK k1
 exact ⟨Or.inr rfl, hl, AS (Be r.1 rfl)⟩
def P7 := fun a0 a1 a2 a3 => Cq.mk (@YS a0 a1 a2 a3)
theorem U7 (a0 : Int) (a1 : Int) (a2 : Int) : zj zL 41 [.int a0, .int a1, .int a2] (.bool (AO a0 a1 a2)) := by
 refine fnN YZ Xv ?_
 rintro low s r hl hf
 refine Ra hl hf ?_
 rintro g1 s r hl hf
 refine Rx (fun g4 => [B_ 6 ((decide (a1 ≤ a0)) && (decide (a0 ≤ a2)))]) hl hf ?_
 rintro g4 s r hl hf
 exact ⟨Or.inr rfl, hl, AS (AZ r.1)⟩
def JO := fun a0 a1 a2 => (U7 a0 a1 a2).call
theorem SN (a0 : BenchBook) (a1 : Int) : zj zL 43 [Enc.enc a0, .int a1] (.bool (Dc a0 a1)) := by
 refine fnN WL VM ?_
 rintro low s r hl hf
 have q3 := @JO
 refine Ra hl hf ?_
 rintro g1 s r hl hf
 refine Ra hl hf ?_
 rintro g2 s r hl hf
 exact ⟨Or.inr rfl, hl, AS (AZ r.1)⟩
def V0 := fun a0 a1 => (SN a0 a1).call
theorem YH {a0 : BenchBook} {r : Int} (k0 : EO a0 = some r) : zj zL 17 [Enc.enc a0] (.int r) := by
 unfold EO at k0; replace k0 := kq k0
 refine fnN GU Zv ?_
 rintro low s r hl hf
 have q46 := @JO
 have q47 := @Gl
 refine Ra hl hf ?_
 rintro g1 s r hl hf
 obtain ⟨o6, q, k2⟩ := bnk k0
 refine Rq (fun g8 => [B_ 3 o6]) hl hf q ?_
 rintro g8 s r hl hf
 refine Ra hl hf ?_
 rintro g9 s r hl hf
 refine blk ?_
 obtain ⟨o13, l14, k3⟩ := bnk k2
 refine Bf (f := C2 a0) (E := fun (x : Bool × Int) s => Em [C_ 1 g1 a0, B_ 3 x.1, E_ 24 a0.Pieces, I_ 25 a0.Pieces.len, I_ 26 x.2] s ∧ s.low = low ∧ NoB GU s) (Q := fun (y12 : Bool) j s => j = .exit 0 ∧ Em [C_ 1 g1 a0, B_ 3 y12] s ∧ s.low = low ∧ NoB GU s) l14 ?_ ⟨r, hl, hf⟩ ?_
 ·rintro ⟨x10, x11⟩ s out ⟨r, hl, hf⟩ k4
  dsimp only at r
  simp only [C2] at k4
  refine Ra hl hf ?_
  rintro g15 s r hl hf
  refine IJ r.2.2.2.2.2.1 k4 (fun c16 k4 => ?_) fun c16 k4 => ?_
  ·refine blk ?_
   obtain ⟨v17, h18, k5⟩ := bnk k4
   refine Ra hl hf ?_
   rintro g19 s r hl hf
   refine Rx (fun g23 => [B_ 3 (x10 && ((AO v17.Week 0 (W (a0.Voice.Weeks - 1))) && (AO v17.Parts.len 1 3)))]) hl hf ?_
   rintro g23 s r hl hf
   refine Ra hl hf ?_
   rintro g24 s r hl hf
   refine blk ?_
   obtain ⟨o28, l29, k6⟩ := bnk k5
   refine Bf (f := Dn v17) (E := fun (x : Bool × Int) s => Em [C_ 1 g1 a0, B_ 3 x.1, E_ 24 a0.Pieces, I_ 25 a0.Pieces.len, I_ 26 x11, E_ 47 v17.Parts, I_ 48 v17.Parts.len, I_ 49 x.2] s ∧ s.low = low ∧ NoB GU s) (Q := fun (y27 : Bool) j s => j = .exit 2 ∧ Em [C_ 1 g1 a0, B_ 3 y27, E_ 24 a0.Pieces, I_ 25 a0.Pieces.len, I_ 26 x11] s ∧ s.low = low ∧ NoB GU s) l29 ?_ ⟨r, hl, hf⟩ ?_
   ·rintro ⟨x25, x26⟩ s out ⟨r, hl, hf⟩ k7
    dsimp only at r
    simp only [Dn] at k7
    refine Ra hl hf ?_
    rintro g30 s r hl hf
    refine IJ r.2.2.2.2.2.2.2.2.1 k7 (fun c31 k7 => ?_) fun c31 k7 => ?_
    ·refine blk ?_
     obtain ⟨v32, h33, k8⟩ := bnk k7
     refine Ra hl hf ?_
     rintro g34 s r hl hf
     refine Rx (fun g39 => [B_ 3 (x25 && ((AO v32.Notes.Low 0 v32.Notes.High) && ((decide (v32.Notes.High ≤ 40)) && (AO v32.Many 1 3))))]) hl hf ?_
     rintro g39 s r hl hf
     refine Ra hl hf ?_
     rintro g40 s r hl hf
     obtain rfl := oK k8
     exact ⟨rfl, r, hl, hf⟩
    obtain rfl := oK k7
    exact ⟨by decide, ⟨rfl, ⟨r.1, r.2.1, r.2.2.1, r.2.2.2.1, r.2.2.2.2.1, trivial⟩, hl, hf⟩⟩
   intro j s hq
   obtain ⟨y27, rfl⟩ : ∃ x, x = o28 := ⟨_, rfl⟩
   try dsimp only at k6 hq
   obtain ⟨rfl, r, hl, hf⟩ := hq
   refine Ra hl hf ?_
   rintro g41 s r hl hf
   obtain rfl := oK k6
   exact ⟨rfl, r, hl, hf⟩
  obtain rfl := oK k4
  exact ⟨by decide, ⟨rfl, ⟨r.1, r.2.1, trivial⟩, hl, hf⟩⟩
 intro j s hq
 obtain ⟨y12, rfl⟩ : ∃ x, x = o13 := ⟨_, rfl⟩
 try dsimp only at k3 hq
 obtain ⟨rfl, r, hl, hf⟩ := hq
 refine Ra hl hf ?_
 rintro g42 s r hl hf
 refine Rz r.1 k3 (fun c43 k3 => ?_) fun c43 k3 => ?_
 ·refine Ra hl hf ?_
  rintro g44 s r hl hf
  cases oK k3
  exact ⟨Or.inr rfl, hl, AS (AZ r.1)⟩
 refine Ra hl hf ?_
 rintro g45 s r hl hf
 cases oK k3
 exact ⟨Or.inr rfl, hl, AS (AZ r.1)⟩
def O3 := fun a0 => Cq.mk (@YH a0)
theorem Lh : zj zL 67 [] (Enc.enc (ep)) := by
 refine fnN XI YL ?_
 rintro low s - hl hf
 have q2 := @UX
 refine Ra hl hf ?_
 rintro g1 s r hl hf
 have q4 := @Hv
 refine Ra hl hf ?_
 rintro g3 s r hl hf
 exact ⟨Or.inr rfl, hl, AS (Be r.1 rfl)⟩
def pq := Lh.call
theorem GN (a0 : Int) : zj zL 84 [.int a0] (.bool (Ge a0)) := by
 refine fnN Q3 RN ?_
 rintro low s r hl hf
 refine Ra hl hf ?_
 rintro g1 s - hl hf
 refine Ra hl hf ?_
 rintro g2 s r hl hf
 exact ⟨Or.inr rfl, hl, AS (AZ r.1)⟩
def ll := fun a0 => (GN a0).call
theorem OO {low : List Fr} {a0 : AB} {a1 : AQ} {a2 : Int} {wja0 : Nat} {wta0 : Nat} {wga0 : Nat} (hwa0 : wja0 < low.length) {r : Bool} (k0 : B2 a0 a1 a2 = some r) : Ou zL 83 [.agg (AB.lc a0 wja0 wta0 wga0), .d (Enc.enc a1), .d (.int a2)] low (.d (.bool r)) := by
 unfold B2 at k0; replace k0 := kq k0
 refine nM H7 LJ ?_
 rintro s r hl hf
 have q29 := @PX
 have q2 := @Qy
 refine Ra hl hf ?_
 rintro g1 s r hl hf
 obtain ⟨v3, h4, k1⟩ := bnk k0
 have q6 := @OZ
 refine Ra hl hf ?_
 rintro g5 s r hl hf
 obtain ⟨v7, h8, k2⟩ := bnk k1
 refine Ra hl hf ?_
 rintro g9 s r hl hf
 refine Ra hl hf ?_
 rintro g10 s r hl hf
 refine blk ?_
 obtain ⟨o13, l14, k3⟩ := bnk k2
 refine Bf (f := BM a0 a2 v3 v7) (E := fun (x : Int) s => Em [I_ 2 a2, (3, .box g1 (AB.lc a0 wja0 wta0 wga0)), C_ 7 (g5 + 1 + 1 + 1 + 1 + 1 + 1 + 1) v3, C_ 8 (g9 + 1 + 1 + 1 + 1 + 1 + 1 + 1) v7.Notes, I_ 31 (W ((W (v7.Notes.High - v7.Notes.Low)) + 1)), I_ 32 x] s ∧ s.low = low ∧ NoB H7 s) (Q := fun (o : ((Bool) ⊕ (Unit))) j s => match o with | .inl w12 => j = .ret ∧ FnJ LJ.1 low (.d (.bool w12)) .ret s | .inr _ => j = .exit 0 ∧ Em [(3, .box g1 (AB.lc a0 wja0 wta0 wga0)), C_ 7 (g5 + 1 + 1 + 1 + 1 + 1 + 1 + 1) v3, C_ 8 (g9 + 1 + 1 + 1 + 1 + 1 + 1 + 1) v7.Notes] s ∧ s.low = low ∧ NoB H7 s) l14 ?_ ⟨r, hl, hf⟩ ?_
 ·rintro x11 s out ⟨r, hl, hf⟩ k4
  unfold BM at k4
  refine Ra hl hf ?_
  rintro g15 s r hl hf
  refine IJ r.2.2.2.2.2.2.1 k4 (fun c16 k4 => ?_) fun c16 k4 => ?_
  ·refine blk <| Ra hl hf ?_
   rintro g17 s r hl hf
   obtain ⟨v18, h19, k5⟩ := bnk k4
   have q21 := @M1
   refine Ra hl hf ?_
   rintro g20 s r hl hf
   refine Rx (fun g24 => [B_ 54 (if (decide (v18.2 = 0)) then (decide (v18.1 < 2)) else true)]) hl hf ?_
   rintro g24 s r hl hf
   refine IJ r.2.2.2.2.2.2.1 k5 (fun c25 k5 => ?_) fun c25 k5 => ?_
   ·refine Ra hl hf ?_
    rintro g26 s r hl hf
    obtain rfl := oK k5
    exact ⟨by decide, ⟨rfl, ⟨Or.inr rfl, hl, AS (AZ r.1)⟩⟩⟩
   refine Ra hl hf ?_
   rintro g27 s r hl hf
   obtain rfl := oK k5
   exact ⟨rfl, r, hl, hf⟩
  obtain rfl := oK k4
  exact ⟨by decide, ⟨rfl, ⟨r.2.1, r.2.2.1, r.2.2.2.1, trivial⟩, hl, hf⟩⟩
 intro j s hq
 rcases o13 with w12 | _
 ·try dsimp only at k3 hq
  obtain ⟨rfl, hq⟩ := hq
  cases oK k3
  exact hq
 try dsimp only at k3 hq
 obtain ⟨rfl, r, hl, hf⟩ := hq
 refine Ra hl hf ?_
 rintro g28 s r hl hf
 cases oK k3
 exact ⟨Or.inr rfl, hl, AS (AZ r.1)⟩
theorem RH {low : List Fr} {a0 : BenchBook} {r : AB} (k0 : Eg a0 = some r) : Ou zL 66 [.d (Enc.enc a0), .d (.agg [.fn 84 [] []])] low (.d (Enc.enc r)) := by
 unfold Eg at k0; replace k0 := kq k0
 refine nM Dp XB ?_
 rintro s r hl hf
 have q2 := @qJ
 have q3 := @oU
 have q4 := @MC
 refine Ra hl hf ?_
 rintro g1 s r hl hf
 have q6 := @J7
 have q7 := @KL
 have q8 := @TV
 have q9 := @OM
 have q10 := @MC
 have q11 := @ua
 refine Ra hl hf ?_ (h := by intro c; simp only [(af (n := 2) (AQ.mk (-1) (-1)) rfl (by decide)), (bL (LP := zL) (t := 13) (gm := c + 1) (key := (Bj.key (AQ.mk (-1) (-1)))) (a := (Sl.nil : (Sl Int))) (vd := .nils) (hav := rfl)), rt, ps, nob hf, *, reduceCtorEq, Nat.reduceEqDiff, Nat.reduceAdd, Nat.reduceMul] <;> rfl)
 rintro g5 s r hl hf
 have q15 := @O4
 have q16 := @Ho
 refine Ra hl hf ?_
 rintro g14 s r hl hf
 refine Ra hl hf ?_
 rintro g17 s r hl hf
 refine blk ?_
 obtain ⟨o21, l22, k1⟩ := bnk k0
 refine Bf (f := D2 a0) (E := fun (x : (List (List Int × (Sl Int))) × Int) s => Em [C_ 2 g1 a0, (3, .box (g1 + 1) [.d (.fn 84 [] [])]), C_ 4 (g1 + 1 + 1) (AB.mk (BenchBook.mk (VoiceBook.mk (Sl.nil : (Sl AK)) 0 (Sl.nil : (Sl AI))) (Sl.nil : (Sl AL)) 0) (Mp.nil : (Mp 2 (Sl Int)))), (5, .box (g5 + 1 + 1 + 1 + 1 + 1 + 1) (AB.lc (AB.mk a0 (Mp.nil : (Mp 2 (Sl Int)))) low.length 13 (g5 + 1))), (6, .v (.fn 83 [.agg (AB.lc (AB.mk a0 (Mp.nil : (Mp 2 (Sl Int)))) low.length 13 (g5 + 1))] [])), (13, .mapo (g5 + 1) 2 (Dx x.1)), E_ 20 a0.Pieces, I_ 21 a0.Pieces.len, I_ 22 x.2] s ∧ s.low = low ∧ NoB Dp s) (Q := fun (y20 : (List (List Int × (Sl Int)))) j s => j = .exit 0 ∧ Em [C_ 2 g1 a0, (3, .box (g1 + 1) [.d (.fn 84 [] [])]), C_ 4 (g1 + 1 + 1) (AB.mk (BenchBook.mk (VoiceBook.mk (Sl.nil : (Sl AK)) 0 (Sl.nil : (Sl AI))) (Sl.nil : (Sl AL)) 0) (Mp.nil : (Mp 2 (Sl Int)))), (5, .box (g5 + 1 + 1 + 1 + 1 + 1 + 1) (AB.lc (AB.mk a0 (Mp.nil : (Mp 2 (Sl Int)))) low.length 13 (g5 + 1))), (13, .mapo (g5 + 1) 2 (Dx y20))] s ∧ s.low = low ∧ NoB Dp s) l22 ?_ ⟨r, hl, hf⟩ ?_
 ·rintro ⟨x18, x19⟩ s out ⟨r, hl, hf⟩ k2
  dsimp only at r
  simp only [D2] at k2
  refine Ra hl hf ?_
  rintro g23 s r hl hf
  refine IJ r.2.2.2.2.2.2.2.2.2.1 k2 (fun c24 k2 => ?_) fun c24 k2 => ?_
  ·refine blk ?_
   obtain ⟨v25, h26, k3⟩ := bnk k2
   refine Ra hl hf ?_
   rintro g27 s r hl hf
   refine Ra hl hf ?_
   rintro g28 s r hl hf
   refine blk ?_
   obtain ⟨o32, l33, k4⟩ := bnk k3
   refine Bf (f := D4 a0 x19 v25) (E := fun (x : (List (List Int × (Sl Int))) × Int) s => Em [C_ 2 g1 a0, (3, .box (g1 + 1) [.d (.fn 84 [] [])]), C_ 4 (g1 + 1 + 1) (AB.mk (BenchBook.mk (VoiceBook.mk (Sl.nil : (Sl AK)) 0 (Sl.nil : (Sl AI))) (Sl.nil : (Sl AL)) 0) (Mp.nil : (Mp 2 (Sl Int)))), (5, .box (g5 + 1 + 1 + 1 + 1 + 1 + 1) (AB.lc (AB.mk a0 (Mp.nil : (Mp 2 (Sl Int)))) low.length 13 (g5 + 1))), (6, .v (.fn 83 [.agg (AB.lc (AB.mk a0 (Mp.nil : (Mp 2 (Sl Int)))) low.length 13 (g5 + 1))] [])), I_ 7 x19, (13, .mapo (g5 + 1) 2 (Dx x.1)), E_ 20 a0.Pieces, I_ 21 a0.Pieces.len, I_ 22 x19, I_ 29 v25.Parts.len, I_ 30 x.2] s ∧ s.low = low ∧ NoB Dp s) (Q := fun (y31 : (List (List Int × (Sl Int)))) j s => j = .exit 2 ∧ Em [C_ 2 g1 a0, (3, .box (g1 + 1) [.d (.fn 84 [] [])]), C_ 4 (g1 + 1 + 1) (AB.mk (BenchBook.mk (VoiceBook.mk (Sl.nil : (Sl AK)) 0 (Sl.nil : (Sl AI))) (Sl.nil : (Sl AL)) 0) (Mp.nil : (Mp 2 (Sl Int)))), (5, .box (g5 + 1 + 1 + 1 + 1 + 1 + 1) (AB.lc (AB.mk a0 (Mp.nil : (Mp 2 (Sl Int)))) low.length 13 (g5 + 1))), (6, .v (.fn 83 [.agg (AB.lc (AB.mk a0 (Mp.nil : (Mp 2 (Sl Int)))) low.length 13 (g5 + 1))] [])), (13, .mapo (g5 + 1) 2 (Dx y31)), E_ 20 a0.Pieces, I_ 21 a0.Pieces.len, I_ 22 x19] s ∧ s.low = low ∧ NoB Dp s) l33 ?_ ⟨r, hl, hf⟩ ?_
   ·rintro ⟨x29, x30⟩ s out ⟨r, hl, hf⟩ k5
    dsimp only at r
    simp only [D4] at k5
    refine Ra hl hf ?_
    rintro g34 s r hl hf
    refine IJ r.2.2.2.2.2.2.2.2.2.2.2.2.1 k5 (fun c35 k5 => ?_) fun c35 k5 => ?_
    ·refine blk <| Ra hl hf ?_
     rintro g36 s r hl hf
     have q38 := @JI
     refine Ra hl hf ?_
     rintro g37 s r hl hf
     refine Ra hl hf ?_
     rintro g39 s r hl hf
     refine blk ?_
     obtain ⟨o43, l44, k6⟩ := bnk k5
     refine Bf (f := D9 a0 x19 x30) (E := fun (x : (List (List Int × (Sl Int))) × Int) s => Em [C_ 2 g1 a0, (3, .box (g1 + 1) [.d (.fn 84 [] [])]), C_ 4 (g1 + 1 + 1) (AB.mk (BenchBook.mk (VoiceBook.mk (Sl.nil : (Sl AK)) 0 (Sl.nil : (Sl AI))) (Sl.nil : (Sl AL)) 0) (Mp.nil : (Mp 2 (Sl Int)))), (5, .box (g5 + 1 + 1 + 1 + 1 + 1 + 1) (AB.lc (AB.mk a0 (Mp.nil : (Mp 2 (Sl Int)))) low.length 13 (g5 + 1))), (6, .v (.fn 83 [.agg (AB.lc (AB.mk a0 (Mp.nil : (Mp 2 (Sl Int)))) low.length 13 (g5 + 1))] [])), I_ 7 x19, C_ 10 (g37 + 1 + 1 + 1) (AQ.mk x19 x30), (13, .mapo (g5 + 1) 2 (Dx x.1)), E_ 20 a0.Pieces, I_ 21 a0.Pieces.len, I_ 22 x19, I_ 29 v25.Parts.len, I_ 30 x30, I_ 39 a0.Voice.Boys.len, I_ 40 x.2] s ∧ s.low = low ∧ NoB Dp s) (Q := fun (y42 : (List (List Int × (Sl Int)))) j s => j = .exit 4 ∧ Em [C_ 2 g1 a0, (3, .box (g1 + 1) [.d (.fn 84 [] [])]), C_ 4 (g1 + 1 + 1) (AB.mk (BenchBook.mk (VoiceBook.mk (Sl.nil : (Sl AK)) 0 (Sl.nil : (Sl AI))) (Sl.nil : (Sl AL)) 0) (Mp.nil : (Mp 2 (Sl Int)))), (5, .box (g5 + 1 + 1 + 1 + 1 + 1 + 1) (AB.lc (AB.mk a0 (Mp.nil : (Mp 2 (Sl Int)))) low.length 13 (g5 + 1))), (6, .v (.fn 83 [.agg (AB.lc (AB.mk a0 (Mp.nil : (Mp 2 (Sl Int)))) low.length 13 (g5 + 1))] [])), I_ 7 x19, C_ 10 (g37 + 1 + 1 + 1) (AQ.mk x19 x30), (13, .mapo (g5 + 1) 2 (Dx y42)), E_ 20 a0.Pieces, I_ 21 a0.Pieces.len, I_ 22 x19, I_ 29 v25.Parts.len, I_ 30 x30] s ∧ s.low = low ∧ NoB Dp s) l44 ?_ ⟨r, hl, hf⟩ ?_
     ·rintro ⟨x40, x41⟩ s out ⟨r, hl, hf⟩ k7
      dsimp only at r
      simp only [D9] at k7
      refine Ra hl hf ?_
      rintro g45 s r hl hf
      refine IJ r.2.2.2.2.2.2.2.2.2.2.2.2.2.2.2.1 k7 (fun c46 k7 => ?_) fun c46 k7 => ?_
      ·refine blk <| Ra hl hf ?_
       rintro g47 s r hl hf
       obtain ⟨o53, q54, k8⟩ := bnk k7
       refine lH [C_ 2 g1 a0, (3, .box (g1 + 1) [.d (.fn 84 [] [])]), C_ 4 (g1 + 1 + 1) (AB.mk (BenchBook.mk (VoiceBook.mk (Sl.nil : (Sl AK)) 0 (Sl.nil : (Sl AI))) (Sl.nil : (Sl AL)) 0) (Mp.nil : (Mp 2 (Sl Int)))), (5, .box (g5 + 1 + 1 + 1 + 1 + 1 + 1) (AB.lc (AB.mk a0 (Mp.nil : (Mp 2 (Sl Int)))) low.length 13 (g5 + 1))), (6, .v (.fn 83 [.agg (AB.lc (AB.mk a0 (Mp.nil : (Mp 2 (Sl Int)))) low.length 13 (g5 + 1))] [])), I_ 7 x19, C_ 10 (g37 + 1 + 1 + 1) (AQ.mk x19 x30), I_ 11 x41, (13, .mapo (g5 + 1) 2 (Dx x40)), E_ 20 a0.Pieces, I_ 21 a0.Pieces.len, I_ 22 x19, I_ 29 v25.Parts.len, I_ 30 x30, I_ 39 a0.Voice.Boys.len, I_ 40 x41, B_ 53 o53] hl hf ?_ ?_
       ·by_cases c49 : (Ge x41) = true
        ·rw [if_pos c49] at q54
         have e1 := oI q54
         obtain ⟨c48, hc48⟩ := Gt (LP := zL) (ds := [.int x41]) (GN x41); simp only [List.map_cons, List.map_nil] at hc48
         simp only [rs, ps, CL, I8, RP, FH, hl, nob hf, r, hc48, c49, ← e1, reduceCtorEq, Nat.reduceEqDiff, Nat.reduceAdd]
        rw [if_neg c49] at q54
        have c49 := eq_false_of_ne_true c49
        obtain ⟨v50, h51, q72⟩ := bnd q54
        have e1 := oI q72
        obtain ⟨c48, hc48⟩ := Gt (LP := zL) (ds := [.int x41]) (GN x41); simp only [List.map_cons, List.map_nil] at hc48
        have f52 : ∀ (e : Env) (c : Nat), (om zL).call 83 [.agg (AB.lc (AB.mk a0 (Mp.nil : (Mp 2 (Sl Int)))) low.length 13 (g5 + 1)), .d (Enc.enc (AQ.mk x19 x30)), .d (.int x41)] (low ++ [⟨e, none⟩]) c = some (.d (.bool (v50)), low ++ [⟨e, none⟩], f8 zL 83 [.agg (AB.lc (AB.mk a0 (Mp.nil : (Mp 2 (Sl Int)))) low.length 13 (g5 + 1)), .d (Enc.enc (AQ.mk x19 x30)), .d (.int x41)] (low ++ [⟨e, none⟩]) c) := fun e c => Ou.om (OO (by first | omega | (simp only [List.length_append, List.length_cons, List.length_nil]; omega)) h51) c
        simp only [rs, ps, CL, I8, RP, FH, hl, nob hf, r, hc48, c49, f52, ← e1, reduceCtorEq, Nat.reduceEqDiff, Nat.reduceAdd]
       rintro s r hl hf
       refine IJ r.2.2.2.2.2.2.2.2.2.2.2.2.2.2.2.2.1 k8 (fun c57 k8 => ?_) fun c57 k8 => ?_
       ·refine Ra hl hf ?_
        rintro g58 s r hl hf
        obtain rfl := oK k8
        exact ⟨rfl, r, hl, hf⟩
       obtain ⟨v59, h60, k9⟩ := bnk k8
       have q62 := @TV
       have q63 := @OM
       have q64 := @OS
       have q68 := OI (sz := 1) (x := (NW (Sl.nil : (Sl Int)) x40 (Bj.key (AQ.mk x19 x30)))) (y := (Sl.cold [x41] : Sl Int)) rfl rfl h60
       refine Ra hl hf ?_ (h := by intro c; simp only [(af (n := 2) (AQ.mk x19 x30) rfl (by decide)), (cC (LP := zL) (t := 13) (gm := g5 + 1) (key := (Bj.key (AQ.mk x19 x30))) (es := x40) (z := (Sl.nil : (Sl Int))) (hz := rfl)), (jD (LP := zL) (a := (NW (Sl.nil : (Sl Int)) x40 (Bj.key (AQ.mk x19 x30)))) (y := .d (.int (Gy x40 (Bj.key (AQ.mk x19 x30)))))), (Tf (LP := zL) (x := Sl.lv (Sl.spent (NW (Sl.nil : (Sl Int)) x40 (Bj.key (AQ.mk x19 x30))))) (y := .int (Gy x40 (Bj.key (AQ.mk x19 x30))))), (bE (LP := zL) (t := 13) (gm := g5 + 1) (key := (Bj.key (AQ.mk x19 x30))) (es := x40) (z := (Sl.nil : (Sl Int))) (a := v59)), rt, ps, nob hf, *, reduceCtorEq, Nat.reduceEqDiff, Nat.reduceAdd, Nat.reduceMul] <;> rfl)
       rintro g61 s r hl hf
       refine Ra hl hf ?_
       rintro g71 s r hl hf
       obtain rfl := oK k9
       exact ⟨rfl, r, hl, hf⟩
      obtain rfl := oK k7
      exact ⟨by decide, ⟨rfl, ⟨r.1, r.2.1, r.2.2.1, r.2.2.2.1, r.2.2.2.2.1, r.2.2.2.2.2.1, r.2.2.2.2.2.2.1, r.2.2.2.2.2.2.2.1, r.2.2.2.2.2.2.2.2.1, r.2.2.2.2.2.2.2.2.2.1, r.2.2.2.2.2.2.2.2.2.2.1, r.2.2.2.2.2.2.2.2.2.2.2.1, r.2.2.2.2.2.2.2.2.2.2.2.2.1, trivial⟩, hl, hf⟩⟩
     intro j s hq
     obtain ⟨y42, rfl⟩ : ∃ x, x = o43 := ⟨_, rfl⟩
     try dsimp only at k6 hq
     obtain ⟨rfl, r, hl, hf⟩ := hq
     refine Ra hl hf ?_
     rintro g73 s r hl hf
     obtain rfl := oK k6
     exact ⟨rfl, r, hl, hf⟩
    obtain rfl := oK k5
    exact ⟨by decide, ⟨rfl, ⟨r.1, r.2.1, r.2.2.1, r.2.2.2.1, r.2.2.2.2.1, r.2.2.2.2.2.2.1, r.2.2.2.2.2.2.2.1, r.2.2.2.2.2.2.2.2.1, r.2.2.2.2.2.2.2.2.2.1, trivial⟩, hl, hf⟩⟩
   intro j s hq
   obtain ⟨y31, rfl⟩ : ∃ x, x = o32 := ⟨_, rfl⟩
   try dsimp only at k4 hq
   obtain ⟨rfl, r, hl, hf⟩ := hq
   refine Ra hl hf ?_
   rintro g74 s r hl hf
   obtain rfl := oK k4
   exact ⟨rfl, r, hl, hf⟩
  obtain rfl := oK k2
  exact ⟨by decide, ⟨rfl, ⟨r.1, r.2.1, r.2.2.1, r.2.2.2.1, r.2.2.2.2.2.1, trivial⟩, hl, hf⟩⟩
 intro j s hq
 obtain ⟨y20, rfl⟩ : ∃ x, x = o21 := ⟨_, rfl⟩
 try dsimp only at k1 hq
 obtain ⟨rfl, r, hl, hf⟩ := hq
 have q76 := @J7
 have q77 := @KL
 have q78 := @Ho
 refine Ra hl hf ?_
 rintro g75 s r hl hf
 cases oK k1
 exact ⟨Or.inr rfl, hl, AS (Qv (by rw [hl]; exact r.1) r.2.1)⟩
theorem Xn {a0 : BenchBook} {a1 : Bool} {r : (AB × Int)} (k0 : DD a0 a1 = some r) : zj zL 42 [Enc.enc a0, .bool a1] (Enc.enc r) := by
 unfold DD at k0; replace k0 := kq k0
 refine fnN cE bS ?_
 rintro low s r hl hf
 have q26 := @O3
 have q27 := @J8
 have q2 := @MC
 refine Ra hl hf ?_
 rintro g1 s r hl hf
 obtain ⟨v3, h4, k1⟩ := bnk k0
 refine Ra hl hf ?_
 rintro g5 s r hl hf
 refine Ra hl hf ?_
 rintro g6 s r hl hf
 refine Rz r.2.2.2.2.1 k1 (fun c7 k1 => ?_) fun c7 k1 => ?_
 ·refine Ra hl hf ?_
  rintro g8 s r hl hf
  refine Rz r.2.2.1 k1 (fun c9 k1 => ?_) fun c9 k1 => ?_
  ·obtain ⟨v10, h11, k2⟩ := bnk k1
   refine Ra hl hf ?_
   rintro g12 s r hl hf
   refine Ra hl hf ?_
   rintro g13 s r hl hf
   refine Rz r.2.2.1 k2 (fun c14 k2 => ?_) fun c14 k2 => ?_
   ·obtain ⟨v15, h16, k3⟩ := bnk k2
    have q18 := zj.call (LP := zL) (n := 67) (ds := []) (v := .agg [.fn 84 [] []]) (Lh)
    have q19 := Ou.call (LP := zL) (ds := [Enc.enc a0, .agg [.fn 84 [] []]]) (RH h16)
    refine Ra hl hf ?_
    rintro g17 s r hl hf
    cases oK k3
    exact ⟨Or.inr rfl, hl, CV (Be r.1 rfl) (AZ r.2.1)⟩
   have q21 := @Ko
   refine Ra hl hf ?_
   rintro g20 s r hl hf
   cases oK k2
   exact ⟨Or.inr rfl, hl, CV (Be r.1 rfl) (AZ r.2.1)⟩
  have q23 := @Ko
  refine Ra hl hf ?_
  rintro g22 s r hl hf
  cases oK k1
  exact ⟨Or.inr rfl, hl, CV (Be r.1 rfl) (AZ r.2.1)⟩
 have q25 := @Ko
 refine Ra hl hf ?_
 rintro g24 s r hl hf
 cases oK k1
 exact ⟨Or.inr rfl, hl, CV (Be r.1 rfl) (AZ r.2.1)⟩
def ai := fun a0 a1 => Cq.mk (@Xn a0 a1)
end Go.Lf
