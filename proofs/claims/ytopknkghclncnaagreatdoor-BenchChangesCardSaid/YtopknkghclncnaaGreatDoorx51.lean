/- A part of the proof. -/
import Derived.Test.YtopknkghclncnaaGreatDoorx28
import Derived.Test.YtopknkghclncnaaGreatDoorx30
import Derived.Test.YtopknkghclncnaaGreatDoorx47
import Derived.Test.YtopknkghclncnaaGreatDoorx48
import Derived.Test.YtopknkghclncnaaGreatDoorx49
import Derived.Test.YtopknkghclncnaaGreatDoorx50
set_option linter.all false
set_option maxHeartbeats 9999999
namespace Go.Lf
open Go
theorem eP {a0 : BenchBook} {r : ((Sl Int) × Int)} (k0 : Jm a0 = some r) : Fin zL 25 [Enc.enc a0] (Enc.enc r) := by
 unfold Jm at k0; replace k0 := kq k0
 refine fnN PO iZ ?_
 rintro low s r hl hf
 have q49 := @EF
 have q50 := @G8
 have q51 := @fN
 refine Ra hl hf ?_
 rintro g1 s r hl hf
 obtain ⟨v2, h3, k1⟩ := bnk k0
 refine Ra hl hf ?_
 rintro g4 s r hl hf
 refine Ra hl hf ?_
 rintro g5 s r hl hf
 refine JV r.2.2.2.1 k1 (fun c6 k1 => ?_) fun c6 k1 => ?_
 ·obtain ⟨v7, h8, k2⟩ := bnk k1
  refine Ra hl hf ?_
  rintro g9 s r hl hf
  refine Ra hl hf ?_
  rintro g10 s r hl hf
  refine Ra hl hf ?_
  rintro g11 s r hl hf
  refine blk ?_
  obtain ⟨o15, l16, k3⟩ := bnk k2
  refine AY (f := Gf a0 v7) (E := fun (x : (Sl Int) × Int) s => BG [C_ 1 g1 a0, E_ 6 v7.1, (8, .v (Sl.lv x.1)), I_ 28 a0.Voice.Boys.len, I_ 29 x.2] s ∧ s.low = low ∧ NoB PO s) (Q := fun (y14 : (Sl Int)) j s => j = .exit 0 ∧ BG [C_ 1 g1 a0, (8, .v (Sl.lv y14))] s ∧ s.low = low ∧ NoB PO s) l16 ?_ ⟨r, hl, hf⟩ ?_
  ·rintro ⟨x12, x13⟩ s out ⟨r, hl, hf⟩ k4
   dsimp only at r
   simp only [Gf] at k4
   refine Ra hl hf ?_
   rintro g17 s r hl hf
   refine Bn r.2.2.2.2.2.1 k4 (fun c18 k4 => ?_) fun c18 k4 => ?_
   ·refine blk <| Ra hl hf ?_
    rintro g19 s r hl hf
    obtain ⟨v20, h21, k5⟩ := bnk k4
    obtain ⟨v24, h25, k6⟩ := bnk k5
    have q27 := @wR
    have q28 := @vw
    have q29 := @wa
    have q30 := @rQ
    have f22 : ∀ (e : Env) (c : Nat) (z0 : Env.get 9 e = some (.box (g19 + 1) [.d (.int x13)])), (om zL).call 56 [.d (Enc.enc a0), .agg [.fn 57 [] [.ptr low.length 9 (g19 + 1) 0]]] (low ++ [⟨e, none⟩]) c = some (.d (Enc.enc (v20)), low ++ [⟨e, none⟩], UT zL 56 [.d (Enc.enc a0), .agg [.fn 57 [] [.ptr low.length 9 (g19 + 1) 0]]] (low ++ [⟨e, none⟩]) c) := fun e c z0 => LY.om (SL (SX z0) h21) c
    have q31 := @f22
    obtain ⟨c23, hc23⟩ := Hk (LP := zL) (ds := [Enc.enc v20]) (JW h25); simp only [List.map_cons, List.map_nil] at hc23
    have q32 := @hc23
    refine Ra hl hf ?_
    rintro g26 s r hl hf
    obtain ⟨v33, h34, k7⟩ := bnk k6
    refine Ra hl hf ?_
    rintro g35 s r hl hf
    refine Bn r.2.2.2.2.2.2.1 k7 (fun c36 k7 => ?_) fun c36 k7 => ?_
    ·obtain ⟨v37, h38, k8⟩ := bnk k7
     have q40 := DZ (sz := 1) (x := x12) (y := (Sl.cold [x13] : Sl Int)) rfl rfl h38
     refine Ra hl hf ?_
     rintro g39 s r hl hf
     refine Ra hl hf ?_
     rintro g41 s r hl hf
     obtain rfl := oK k8
     exact ⟨rfl, r, hl, hf⟩
    refine Ra hl hf ?_
    rintro g42 s r hl hf
    obtain rfl := oK k7
    exact ⟨rfl, r, hl, hf⟩
   obtain rfl := oK k4
   exact ⟨by decide, ⟨rfl, ⟨r.1, r.2.2.1, trivial⟩, hl, hf⟩⟩
  intro j s hq
  obtain ⟨y14, rfl⟩ : ∃ x, x = o15 := ⟨_, rfl⟩
  try dsimp only at k3 hq
  obtain ⟨rfl, r, hl, hf⟩ := hq
  obtain ⟨v43, h44, k9⟩ := bnk k3
  have q46 := @uU
  have q47 := Lm (sz := 1) rfl h44
  refine Ra hl hf ?_
  rintro g45 s r hl hf
  cases oK k9
  exact ⟨Or.inr rfl, hl, Av (fy r.1) (AE r.2.1)⟩
 refine Ra hl hf ?_
 rintro g48 s r hl hf
 cases oK k1
 exact ⟨Or.inr rfl, hl, Av (AE r.1) (AE r.2.1)⟩
def Vi := fun a0 => Cq.mk (@eP a0)
theorem fc {a0 : (Sl AA)} {a1 : (Sl AA)} {r : Bool} (k0 : FM a0 a1 = some r) : Fin zL 20 [Enc.enc a0, Enc.enc a1] (.bool r) := by
 unfold FM at k0; replace k0 := kq k0
 refine fnN Ol ji ?_
 rintro low s r hl hf
 refine Ra hl hf ?_
 rintro g1 s r hl hf
 refine Ra hl hf ?_
 rintro g2 s r hl hf
 refine Ra hl hf ?_
 rintro g3 s r hl hf
 refine blk ?_
 obtain ⟨o7, l8, k1⟩ := bnk k0
 refine AY (f := EH a0 a1) (E := fun (x : Bool × Int) s => BG [E_ 0 a0, E_ 1 a1, B_ 5 x.1, I_ 6 x.2] s ∧ s.low = low ∧ NoB Ol s) (Q := fun (y6 : Bool) j s => j = .exit 0 ∧ BG [B_ 5 y6] s ∧ s.low = low ∧ NoB Ol s) l8 ?_ ⟨r, hl, hf⟩ ?_
 ·rintro ⟨x4, x5⟩ s out ⟨r, hl, hf⟩ k2
  dsimp only at r
  simp only [EH] at k2
  refine Rx (fun g11 => [B_ 18 (x4 && (decide (x5 < a0.len)))]) hl hf ?_
  rintro g11 s r hl hf
  refine Bn r.2.2.2.2.1 k2 (fun c12 k2 => ?_) fun c12 k2 => ?_
  ·refine blk ?_
   obtain ⟨v13, h14, k3⟩ := bnk k2
   obtain ⟨v15, h16, k4⟩ := bnk k3
   refine Ra hl hf ?_
   rintro g17 s r hl hf
   refine Ra hl hf ?_
   rintro g18 s r hl hf
   obtain rfl := oK k4
   exact ⟨rfl, r, hl, hf⟩
  obtain rfl := oK k2
  exact ⟨by decide, ⟨rfl, ⟨r.2.2.1, trivial⟩, hl, hf⟩⟩
 intro j s hq
 obtain ⟨y6, rfl⟩ : ∃ x, x = o7 := ⟨_, rfl⟩
 try dsimp only at k1 hq
 obtain ⟨rfl, r, hl, hf⟩ := hq
 refine Ra hl hf ?_
 rintro g19 s r hl hf
 cases oK k1
 exact ⟨Or.inr rfl, hl, AH (AE r.1)⟩
def Uz := fun a0 a1 => Cq.mk (@fc a0 a1)
theorem XS {r : Bool} (k0 : EM = some r) : Fin zL 15 [] (.bool r) := by
 unfold EM at k0; replace k0 := kq k0
 refine fnN aj aE ?_
 rintro low s - hl hf
 have q62 := @X8
 have q63 := @QU
 have q64 := @U5
 have q65 := @VM
 have q66 := @Yy
 have q67 := @Vi
 have q68 := @SB
 have q69 := @VJ
 have q70 := @lQ
 have q71 := @jZ
 have q72 := @l3
 have q73 := @Uz
 have q74 := @Uu
 have q75 := @ev
 have q76 := @Jk
 refine Ra hl hf ?_
 rintro g1 s - hl hf
 obtain ⟨v2, h3, k1⟩ := bnk k0
 refine Ra hl hf ?_
 rintro g4 s r hl hf
 obtain ⟨v5, h6, k2⟩ := bnk k1
 refine Ra hl hf ?_
 rintro g7 s r hl hf
 obtain ⟨v8, h9, k3⟩ := bnk k2
 refine Ra hl hf ?_
 rintro g10 s r hl hf
 obtain ⟨v11, h12, k4⟩ := bnk k3
 refine Ra hl hf ?_
 rintro g13 s r hl hf
 obtain ⟨v14, h15, k5⟩ := bnk k4
 refine Ra hl hf ?_
 rintro g16 s r hl hf
 obtain ⟨o30, q, k6⟩ := bnk k5
 refine Rq (fun g32 => [B_ 82 o30]) hl hf q ?_
 rintro g32 s r hl hf
 refine Bn r.1 k6 (fun c33 k6 => ?_) fun c33 k6 => ?_
 ·refine Ra hl hf ?_
  rintro g34 s r hl hf
  cases oK k6
  exact ⟨Or.inr rfl, hl, AH (AE r.1)⟩
 obtain ⟨v35, h36, k7⟩ := bnk k6
 refine Ra hl hf ?_
 rintro g37 s r hl hf
 obtain ⟨v38, h39, k8⟩ := bnk k7
 refine Ra hl hf ?_
 rintro g40 s r hl hf
 obtain ⟨v41, h42, k9⟩ := bnk k8
 refine Ra hl hf ?_
 rintro g43 s r hl hf
 obtain ⟨v44, h45, k10⟩ := bnk k9
 refine Ra hl hf ?_
 rintro g46 s r hl hf
 obtain ⟨o59, q, k11⟩ := bnk k10
 refine Rq (fun g61 => [B_ 0 o59]) hl hf q ?_
 rintro g61 s r hl hf
 cases oK k11
 exact ⟨Or.inr rfl, hl, AH (AE r.1)⟩
def LC := Cq.mk (@XS)
theorem Ku {a0 : BenchBook} {a1 : (Ar 2 Int)} {a2 : (Sl AA)} {r : Bool} (k0 : Hr a0 a1 a2 = some r) : Fin zL 3 [Enc.enc a0, Enc.enc a1, Enc.enc a2] (.bool r) := by
 unfold Hr at k0; replace k0 := kq k0
 refine fnN Ic Ly ?_
 rintro low s r hl hf
 have q88 := @X8
 have q89 := @R2
 have q90 := @VM
 have q91 := @Yy
 have q92 := @LC
 have q93 := @Jk
 have q94 := @mb
 have q95 := @TZ
 have q96 := @kA
 have q97 := @nH
 refine Ra hl hf ?_
 rintro g1 s r hl hf
 obtain ⟨v2, h3, k1⟩ := bnk k0
 obtain ⟨v4, h5, k2⟩ := bnk k1
 obtain ⟨v6, h7, k3⟩ := bnk k2
 have q9 := Da h3
 have q10 := B0 h3 rfl rfl
 have q11 := Da h5
 have q12 := B0 h5 rfl rfl
 refine Ra hl hf ?_
 rintro g8 s r hl hf
 obtain ⟨v13, h14, k4⟩ := bnk k3
 try clear h3
 try clear q9
 try clear q10
 obtain ⟨v15, h16, k5⟩ := bnk k4
 try clear h5
 try clear q11
 try clear q12
 obtain ⟨v17, h18, k6⟩ := bnk k5
 have q20 := Da h14
 have q21 := B0 h14 rfl rfl
 have q22 := Da h16
 have q23 := B0 h16 rfl rfl
 refine Ra hl hf ?_
 rintro g19 s r hl hf
 obtain ⟨o32, q, k7⟩ := bnk k6
 refine Rq (fun g34 => [B_ 52 o32]) hl hf q ?_
 rintro g34 s r hl hf
 refine Bn r.2.2.2.1 k7 (fun c35 k7 => ?_) fun c35 k7 => ?_
 ·refine Ra hl hf ?_
  rintro g36 s r hl hf
  cases oK k7
  exact ⟨Or.inr rfl, hl, AH (AE r.1)⟩
 obtain ⟨v37, h38, k8⟩ := bnk k7
 try clear h3
 try clear q9
 try clear q10
 try clear h14
 try clear q20
 try clear q21
 obtain ⟨v39, h40, k9⟩ := bnk k8
 have q42 := Da h38
 have q43 := B0 h38 rfl rfl
 refine Ra hl hf ?_
 rintro g41 s r hl hf
 obtain ⟨v44, h45, k10⟩ := bnk k9
 try clear h3
 try clear q9
 try clear q10
 try clear h14
 try clear q20
 try clear q21
 try clear h38
 try clear q42
 try clear q43
 obtain ⟨v46, h47, k11⟩ := bnk k10
 have q49 := Da h45
 have q50 := B0 h45 rfl rfl
 refine Ra hl hf ?_
 rintro g48 s r hl hf
 refine Rx (fun g53 => [B_ 74 (if (decide (v39.1 = v46.1)) then (!(decide (v39.2 = v46.2))) else true)]) hl hf ?_
 rintro g53 s r hl hf
 refine Bn r.2.2.2.1 k11 (fun c54 k11 => ?_) fun c54 k11 => ?_
 ·refine Ra hl hf ?_
  rintro g55 s r hl hf
  cases oK k11
  exact ⟨Or.inr rfl, hl, AH (AE r.1)⟩
 obtain ⟨v56, h57, k12⟩ := bnk k11
 try clear h3
 try clear q9
 try clear q10
 try clear h14
 try clear q20
 try clear q21
 try clear h38
 try clear q42
 try clear q43
 try clear h45
 try clear q49
 try clear q50
 have q59 := Da h57
 have q60 := B0 h57 rfl rfl
 have q61 := B0 h57 rfl rfl
 refine Ra hl hf ?_
 rintro g58 s r hl hf
 refine Ra hl hf ?_
 rintro g62 s r hl hf
 refine blk ?_
 obtain ⟨o65, l66, k13⟩ := bnk k12
 refine AY (f := B7 a0 a2 v56) (E := fun (x : Int) s => BG [E_ 2 a2, C_ 3 g1 a0, (13, .v (Sl.lv (Sl.hot [(Sl.cold [v56] : Sl Int), (Sl.cold [0, v56] : Sl Int), (Sl.cold [0, 1, 2] : Sl Int)] : Sl (Sl Int)))), I_ 14 x] s ∧ s.low = low ∧ NoB Ic s) (Q := fun (o : ((Bool) ⊕ (Unit))) j s => match o with | .inl w64 => j = .ret ∧ FnJ Ly.1 low (.d (.bool w64)) .ret s | .inr _ => j = .exit 0 ∧ BG [C_ 3 g1 a0] s ∧ s.low = low ∧ NoB Ic s) l66 ?_ ⟨r, hl, hf⟩ ?_
 ·rintro x63 s out ⟨r, hl, hf⟩ k14
  unfold B7 at k14
  refine Ra hl hf ?_
  rintro g67 s r hl hf
  refine Bn r.2.2.2.2.1 k14 (fun c68 k14 => ?_) fun c68 k14 => ?_
  ·refine blk ?_
   obtain ⟨v69, h70, k15⟩ := bnk k14
   obtain ⟨v71, h72, k16⟩ := bnk k15
   refine Ra hl hf ?_
   rintro g73 s r hl hf
   obtain ⟨v74, h75, k17⟩ := bnk k16
   try clear h70
   obtain ⟨v76, h77, k18⟩ := bnk k17
   refine Ra hl hf ?_
   rintro g78 s r hl hf
   refine Rx (fun g81 => [B_ 116 ((v71.1 != v76.1) || (!(decide (v71.2 = v76.2))))]) hl hf ?_
   rintro g81 s r hl hf
   refine Bn r.2.2.2.2.1 k18 (fun c82 k18 => ?_) fun c82 k18 => ?_
   ·refine Ra hl hf ?_
    rintro g83 s r hl hf
    obtain rfl := oK k18
    exact ⟨by decide, ⟨rfl, ⟨Or.inr rfl, hl, AH (AE r.1)⟩⟩⟩
   refine Ra hl hf ?_
   rintro g84 s r hl hf
   obtain rfl := oK k18
   exact ⟨rfl, r, hl, hf⟩
  obtain rfl := oK k14
  exact ⟨by decide, ⟨rfl, ⟨r.2.1, trivial⟩, hl, hf⟩⟩
 intro j s hq
 rcases o65 with w64 | _
 ·try dsimp only at k13 hq
  obtain ⟨rfl, hq⟩ := hq
  cases oK k13
  exact hq
 try dsimp only at k13 hq
 obtain ⟨rfl, r, hl, hf⟩ := hq
 obtain ⟨v85, h86, k19⟩ := bnk k13
 refine Ra hl hf ?_
 rintro g87 s r hl hf
 cases oK k19
 exact ⟨Or.inr rfl, hl, AH (AE r.1)⟩
def rA := fun a0 a1 a2 => Cq.mk (@Ku a0 a1 a2)
theorem JX {a0 : BenchBook} {a1 : (Sl Int)} {r : (Sl Int)} (k0 : Eg a0 a1 = some r) : Fin zL 52 [Enc.enc a0, Enc.enc a1] (Enc.enc r) := by
 unfold Eg at k0; replace k0 := kq k0
 refine fnN PK ky ?_
 rintro low s r hl hf
 have q22 := @TW
 refine Ra hl hf ?_
 rintro g1 s r hl hf
 refine Ra hl hf ?_
 rintro g2 s r hl hf
 refine Ra hl hf ?_
 rintro g3 s r hl hf
 refine blk ?_
 obtain ⟨o7, l8, k1⟩ := bnk k0
 refine AY (f := GQ a0 a1) (E := fun (x : (Sl Int) × Int) s => BG [E_ 1 a1, C_ 2 g1 a0, (5, .v (Sl.lv x.1)), I_ 6 x.2] s ∧ s.low = low ∧ NoB PK s) (Q := fun (y6 : (Sl Int)) j s => j = .exit 0 ∧ BG [C_ 2 g1 a0, (5, .v (Sl.lv y6))] s ∧ s.low = low ∧ NoB PK s) l8 ?_ ⟨r, hl, hf⟩ ?_
 ·rintro ⟨x4, x5⟩ s out ⟨r, hl, hf⟩ k2
  dsimp only at r
  simp only [GQ] at k2
  refine Ra hl hf ?_
  rintro g9 s r hl hf
  refine Bn r.2.2.2.2.1 k2 (fun c10 k2 => ?_) fun c10 k2 => ?_
  ·refine blk ?_
   obtain ⟨v11, h12, k3⟩ := bnk k2
   refine Ra hl hf ?_
   rintro g13 s r hl hf
   refine Bn r.2.2.2.2.1 k3 (fun c14 k3 => ?_) fun c14 k3 => ?_
   ·obtain ⟨v15, h16, k4⟩ := bnk k3
    have q18 := DZ (sz := 1) (x := x4) (y := (Sl.cold [x5] : Sl Int)) rfl rfl h16
    refine Ra hl hf ?_
    rintro g17 s r hl hf
    refine Ra hl hf ?_
    rintro g19 s r hl hf
    obtain rfl := oK k4
    exact ⟨rfl, r, hl, hf⟩
   refine Ra hl hf ?_
   rintro g20 s r hl hf
   obtain rfl := oK k3
   exact ⟨rfl, r, hl, hf⟩
  obtain rfl := oK k2
  exact ⟨by decide, ⟨rfl, ⟨r.2.1, r.2.2.1, trivial⟩, hl, hf⟩⟩
 intro j s hq
 obtain ⟨y6, rfl⟩ : ∃ x, x = o7 := ⟨_, rfl⟩
 try dsimp only at k1 hq
 obtain ⟨rfl, r, hl, hf⟩ := hq
 refine Ra hl hf ?_
 rintro g21 s r hl hf
 cases oK k1
 exact ⟨Or.inr rfl, hl, AH (JI r.1)⟩
def VE := fun a0 a1 => Cq.mk (@JX a0 a1)
theorem iV {a0 : BenchBook} {a1 : (Sl (Sl (Sl Int)))} {a2 : (Sl Int)} {r : (Sl (Sl AA))} (k0 : Gt a0 a1 a2 = some r) : Fin zL 51 [Enc.enc a0, Enc.enc a1, Enc.enc a2] (Enc.enc r) := by
 unfold Gt at k0; replace k0 := kq k0
 refine fnN G9 mO ?_
 rintro low s r hl hf
 have q63 := @SC
 refine Ra hl hf ?_
 rintro g1 s r hl hf
 have q3 := @OY
 refine Ra hl hf ?_
 rintro g2 s r hl hf
 refine Ra hl hf ?_
 rintro g4 s r hl hf
 refine blk ?_
 obtain ⟨o8, l9, k1⟩ := bnk k0
 refine AY (f := HG a0 a1 a2) (E := fun (x : (Sl (Sl AA)) × Int) s => BG [E_ 1 a1, E_ 2 a2, C_ 3 g1 a0, (7, .v (Sl.lv x.1)), I_ 8 x.2] s ∧ s.low = low ∧ NoB G9 s) (Q := fun (y7 : (Sl (Sl AA))) j s => j = .exit 0 ∧ BG [C_ 3 g1 a0, (7, .v (Sl.lv y7))] s ∧ s.low = low ∧ NoB G9 s) l9 ?_ ⟨r, hl, hf⟩ ?_
 ·rintro ⟨x5, x6⟩ s out ⟨r, hl, hf⟩ k2
  dsimp only at r
  simp only [HG] at k2
  refine Ra hl hf ?_
  rintro g10 s r hl hf
  refine Bn r.2.2.2.2.2.1 k2 (fun c11 k2 => ?_) fun c11 k2 => ?_
  ·refine blk ?_
   obtain ⟨v12, h13, k3⟩ := bnk k2
   obtain ⟨v14, h15, k4⟩ := bnk k3
   obtain ⟨v16, h17, k5⟩ := bnk k4
   have q19 := Fin.call (LP := zL) (ds := [Enc.enc a0, Enc.enc a1, .int v12, .int 0, .int v14.Parts.len, .nils]) (MM 64 a0 a1 v12 0 v14.Parts.len (Sl.nil : (Sl AA)) v16 h17)
   refine Ra hl hf ?_
   rintro g18 s r hl hf
   refine Ra hl hf ?_
   rintro g20 s r hl hf
   refine Ra hl hf ?_
   rintro g21 s r hl hf
   refine blk ?_
   obtain ⟨o25, l26, k6⟩ := bnk k5
   refine AY (f := Fz a0 x5 v16) (E := fun (x : (Sl (Sl AA)) × Int) s => BG [E_ 1 a1, E_ 2 a2, C_ 3 g1 a0, (7, .v (Sl.lv x5)), I_ 8 x6, E_ 9 v16, (10, .v (Sl.lv x.1)), I_ 11 x.2] s ∧ s.low = low ∧ NoB G9 s) (Q := fun (y24 : (Sl (Sl AA))) j s => j = .exit 2 ∧ BG [E_ 1 a1, E_ 2 a2, C_ 3 g1 a0, I_ 8 x6, (10, .v (Sl.lv y24))] s ∧ s.low = low ∧ NoB G9 s) l26 ?_ ⟨r, hl, hf⟩ ?_
   ·rintro ⟨x22, x23⟩ s out ⟨r, hl, hf⟩ k7
    dsimp only at r
    simp only [Fz] at k7
    refine Ra hl hf ?_
    rintro g27 s r hl hf
    refine Bn r.2.2.2.2.2.2.2.2.1 k7 (fun c28 k7 => ?_) fun c28 k7 => ?_
    ·refine blk <| Ra hl hf ?_
     rintro g29 s r hl hf
     refine blk ?_
     obtain ⟨o33, l34, k8⟩ := bnk k7
     refine AY (f := Ew a0 x5 v16 x23) (E := fun (x : (Sl (Sl AA)) × Int) s => BG [E_ 1 a1, E_ 2 a2, C_ 3 g1 a0, (7, .v (Sl.lv x5)), I_ 8 x6, E_ 9 v16, (10, .v (Sl.lv x.1)), I_ 11 x23, I_ 12 x.2] s ∧ s.low = low ∧ NoB G9 s) (Q := fun (y32 : (Sl (Sl AA))) j s => j = .exit 4 ∧ BG [E_ 1 a1, E_ 2 a2, C_ 3 g1 a0, (7, .v (Sl.lv x5)), I_ 8 x6, E_ 9 v16, (10, .v (Sl.lv y32)), I_ 11 x23] s ∧ s.low = low ∧ NoB G9 s) l34 ?_ ⟨r, hl, hf⟩ ?_
     ·rintro ⟨x30, x31⟩ s out ⟨r, hl, hf⟩ k9
      dsimp only at r
      simp only [Ew] at k9
      refine Ra hl hf ?_
      rintro g35 s r hl hf
      refine Bn r.2.2.2.2.2.2.2.2.2.1 k9 (fun c36 k9 => ?_) fun c36 k9 => ?_
      ·refine blk ?_
       obtain ⟨v37, h38, k10⟩ := bnk k9
       obtain ⟨v39, h40, k11⟩ := bnk k10
       obtain ⟨v41, h42, k12⟩ := bnk k11
       obtain ⟨v43, h44, k13⟩ := bnk k12
       have q46 := @N8
       have q47 := DZ (sz := 3) (x := (Sl.hot [] : Sl AA)) (y := v37) rfl rfl h40
       have q48 := DZ (sz := 3) (x := v39) (y := v41) rfl rfl h44
       refine Ra hl hf ?_
       rintro g45 s r hl hf
       obtain ⟨v49, h50, k14⟩ := bnk k13
       refine Ra hl hf ?_
       rintro g51 s r hl hf
       refine Bn r.2.2.2.2.2.2.2.2.2.2.1 k14 (fun c52 k14 => ?_) fun c52 k14 => ?_
       ·obtain ⟨v53, h54, k15⟩ := bnk k14
        have q56 := DZ (sz := 1) (x := x30) (y := (Sl.cold [v43] : Sl (Sl AA))) rfl rfl h54
        refine Ra hl hf ?_
        rintro g55 s r hl hf
        refine Ra hl hf ?_
        rintro g57 s r hl hf
        obtain rfl := oK k15
        exact ⟨rfl, r, hl, hf⟩
       refine Ra hl hf ?_
       rintro g58 s r hl hf
       obtain rfl := oK k14
       exact ⟨rfl, r, hl, hf⟩
      obtain rfl := oK k9
      exact ⟨by decide, ⟨rfl, ⟨r.1, r.2.1, r.2.2.1, r.2.2.2.1, r.2.2.2.2.1, r.2.2.2.2.2.1, r.2.2.2.2.2.2.1, r.2.2.2.2.2.2.2.1, trivial⟩, hl, hf⟩⟩
     intro j s hq
     obtain ⟨y32, rfl⟩ : ∃ x, x = o33 := ⟨_, rfl⟩
     try dsimp only at k8 hq
     obtain ⟨rfl, r, hl, hf⟩ := hq
     refine Ra hl hf ?_
     rintro g59 s r hl hf
     obtain rfl := oK k8
     exact ⟨rfl, r, hl, hf⟩
    obtain rfl := oK k7
    exact ⟨by decide, ⟨rfl, ⟨r.1, r.2.1, r.2.2.1, r.2.2.2.2.1, r.2.2.2.2.2.2.1, trivial⟩, hl, hf⟩⟩
   intro j s hq
   obtain ⟨y24, rfl⟩ : ∃ x, x = o25 := ⟨_, rfl⟩
   try dsimp only at k6 hq
   obtain ⟨rfl, r, hl, hf⟩ := hq
   refine Ra hl hf ?_
   rintro g60 s r hl hf
   refine Ra hl hf ?_
   rintro g61 s r hl hf
   obtain rfl := oK k6
   exact ⟨rfl, r, hl, hf⟩
  obtain rfl := oK k2
  exact ⟨by decide, ⟨rfl, ⟨r.2.2.1, r.2.2.2.1, trivial⟩, hl, hf⟩⟩
 intro j s hq
 obtain ⟨y7, rfl⟩ : ∃ x, x = o8 := ⟨_, rfl⟩
 try dsimp only at k1 hq
 obtain ⟨rfl, r, hl, hf⟩ := hq
 refine Ra hl hf ?_
 rintro g62 s r hl hf
 cases oK k1
 exact ⟨Or.inr rfl, hl, AH (JI r.1)⟩
def NP := fun a0 a1 a2 => Cq.mk (@iV a0 a1 a2)
theorem fU {a0 : BenchBook} {r : (Int × Int)} (k0 : MK a0 = some r) : Fin zL 17 [Enc.enc a0] (Enc.enc r) := by
 unfold MK at k0; replace k0 := kq k0
 refine fnN jb lR ?_
 rintro low s r hl hf
 have q16 := @Eo
 have q17 := @NP
 have q18 := @EC
 refine Ra hl hf ?_
 rintro g1 s r hl hf
 obtain ⟨v2, h3, k1⟩ := bnk k0
 refine Ra hl hf ?_
 rintro g4 s r hl hf
 refine Ra hl hf ?_
 rintro g5 s r hl hf
 refine JV r.2.2.1 k1 (fun c6 k1 => ?_) fun c6 k1 => ?_
 ·obtain ⟨v7, h8, k2⟩ := bnk k1
  obtain ⟨v9, h10, k3⟩ := bnk k2
  obtain ⟨v11, h12, k4⟩ := bnk k3
  have q14 := Fin.call (LP := zL) (ds := [Enc.enc a0, .nils]) (JX h10)
  refine Ra hl hf ?_
  rintro g13 s r hl hf
  cases oK k4
  exact ⟨Or.inr rfl, hl, Av (AE r.1) (AE r.2.1)⟩
 refine Ra hl hf ?_
 rintro g15 s r hl hf
 cases oK k1
 exact ⟨Or.inr rfl, hl, Av (AE r.1) (AE r.2.1)⟩
def lT := fun a0 => Cq.mk (@fU a0)
theorem W3 {a0 : (Sl AA)} {a1 : (Sl AA)} {r : Bool} (k0 : I2 a0 a1 = some r) : Fin zL 79 [Enc.enc a0, Enc.enc a1] (.bool r) := by
 unfold I2 at k0; replace k0 := kq k0
 refine fnN LI QL ?_
 rintro low s r hl hf
 have q25 := @KD
 have q26 := @Jk
 refine Ra hl hf ?_
 rintro g1 s r hl hf
 refine Ra hl hf ?_
 rintro g2 s r hl hf
 refine blk ?_
 obtain ⟨o5, l6, k1⟩ := bnk k0
 refine AY (f := BV a0 a1) (E := fun (x : Int) s => BG [E_ 0 a0, E_ 1 a1, I_ 5 x] s ∧ s.low = low ∧ NoB LI s) (Q := fun (o : ((Bool) ⊕ (Unit))) j s => match o with | .inl w4 => j = .ret ∧ FnJ QL.1 low (.d (.bool w4)) .ret s | .inr _ => j = .exit 0 ∧ BG [E_ 0 a0, E_ 1 a1] s ∧ s.low = low ∧ NoB LI s) l6 ?_ ⟨r, hl, hf⟩ ?_
 ·rintro x3 s out ⟨r, hl, hf⟩ k2
  unfold BV at k2
  refine Rx (fun g9 => [B_ 17 ((decide (x3 < a0.len)) && (decide (x3 < a1.len)))]) hl hf ?_
  rintro g9 s r hl hf
  refine Bn r.2.2.2.1 k2 (fun c10 k2 => ?_) fun c10 k2 => ?_
  ·refine blk ?_
   obtain ⟨v11, h12, k3⟩ := bnk k2
   obtain ⟨v13, h14, k4⟩ := bnk k3
   refine Ra hl hf ?_
   rintro g15 s r hl hf
   obtain ⟨v16, h17, k5⟩ := bnk k4
   refine Ra hl hf ?_
   rintro g18 s r hl hf
   refine JV r.2.2.2.2.2.1 k5 (fun c19 k5 => ?_) fun c19 k5 => ?_
   ·refine Ra hl hf ?_
    rintro g20 s r hl hf
    obtain rfl := oK k5
    exact ⟨rfl, r, hl, hf⟩
   obtain ⟨v21, h22, k6⟩ := bnk k5
   refine Ra hl hf ?_
   rintro g23 s r hl hf
   obtain rfl := oK k6
   exact ⟨by decide, ⟨rfl, ⟨Or.inr rfl, hl, AH (AE r.1)⟩⟩⟩
  obtain rfl := oK k2
  exact ⟨by decide, ⟨rfl, ⟨r.1, r.2.1, trivial⟩, hl, hf⟩⟩
 intro j s hq
 rcases o5 with w4 | _
 ·try dsimp only at k1 hq
  obtain ⟨rfl, hq⟩ := hq
  cases oK k1
  exact hq
 try dsimp only at k1 hq
 obtain ⟨rfl, r, hl, hf⟩ := hq
 refine Ra hl hf ?_
 rintro g24 s r hl hf
 cases oK k1
 exact ⟨Or.inr rfl, hl, AH (AE r.1)⟩
def aQ := fun a0 a1 => Cq.mk (@W3 a0 a1)
theorem bS {a0 : (Sl (Sl AA))} {r : (Sl AA)} (k0 : HC a0 = some r) : Fin zL 53 [Enc.enc a0] (Enc.enc r) := by
 unfold HC at k0; replace k0 := kq k0
 refine fnN NS ff ?_
 rintro low s r hl hf
 have q25 := @aQ
 refine Ra hl hf ?_
 rintro g1 s r hl hf
 obtain ⟨v2, h3, k1⟩ := bnk k0
 refine Ra hl hf ?_
 rintro g4 s r hl hf
 refine Ra hl hf ?_
 rintro g5 s r hl hf
 refine blk ?_
 obtain ⟨o9, l10, k2⟩ := bnk k1
 refine AY (f := Di a0) (E := fun (x : (Sl AA) × Int) s => BG [E_ 0 a0, E_ 3 x.1, I_ 4 x.2] s ∧ s.low = low ∧ NoB NS s) (Q := fun (y8 : (Sl AA)) j s => j = .exit 0 ∧ BG [E_ 3 y8] s ∧ s.low = low ∧ NoB NS s) l10 ?_ ⟨r, hl, hf⟩ ?_
 ·rintro ⟨x6, x7⟩ s out ⟨r, hl, hf⟩ k3
  dsimp only at r
  simp only [Di] at k3
  refine Ra hl hf ?_
  rintro g11 s r hl hf
  refine Bn r.2.2.2.1 k3 (fun c12 k3 => ?_) fun c12 k3 => ?_
  ·refine blk ?_
   obtain ⟨v13, h14, k4⟩ := bnk k3
   obtain ⟨v15, h16, k5⟩ := bnk k4
   refine Ra hl hf ?_
   rintro g17 s r hl hf
   refine Bn r.2.2.2.1 k5 (fun c18 k5 => ?_) fun c18 k5 => ?_
   ·obtain ⟨v19, h20, k6⟩ := bnk k5
    try clear h14
    refine Ra hl hf ?_
    rintro g21 s r hl hf
    refine Ra hl hf ?_
    rintro g22 s r hl hf
    obtain rfl := oK k6
    exact ⟨rfl, r, hl, hf⟩
   refine Ra hl hf ?_
   rintro g23 s r hl hf
   obtain rfl := oK k5
   exact ⟨rfl, r, hl, hf⟩
  obtain rfl := oK k3
  exact ⟨by decide, ⟨rfl, ⟨r.2.1, trivial⟩, hl, hf⟩⟩
 intro j s hq
 obtain ⟨y8, rfl⟩ : ∃ x, x = o9 := ⟨_, rfl⟩
 try dsimp only at k2 hq
 obtain ⟨rfl, r, hl, hf⟩ := hq
 refine Ra hl hf ?_
 rintro g24 s r hl hf
 cases oK k2
 exact ⟨Or.inr rfl, hl, AH (AE r.1)⟩
def Td := fun a0 => Cq.mk (@bS a0)
theorem ef {a0 : BenchBook} {r : ((Sl AA) × Int)} (k0 : MC a0 = some r) : Fin zL 19 [Enc.enc a0] (Enc.enc r) := by
 unfold MC at k0; replace k0 := kq k0
 refine fnN lK km ?_
 rintro low s r hl hf
 have q22 := @Eo
 have q23 := @NP
 have q24 := @EC
 have q25 := @Td
 refine Ra hl hf ?_
 rintro g1 s r hl hf
 obtain ⟨v2, h3, k1⟩ := bnk k0
 refine Ra hl hf ?_
 rintro g4 s r hl hf
 refine Ra hl hf ?_
 rintro g5 s r hl hf
 refine JV r.2.2.1 k1 (fun c6 k1 => ?_) fun c6 k1 => ?_
 ·obtain ⟨v7, h8, k2⟩ := bnk k1
  obtain ⟨v9, h10, k3⟩ := bnk k2
  obtain ⟨v11, h12, k4⟩ := bnk k3
  have q14 := Fin.call (LP := zL) (ds := [Enc.enc a0, .nils]) (JX h10)
  refine Ra hl hf ?_
  rintro g13 s r hl hf
  refine Ra hl hf ?_
  rintro g15 s r hl hf
  refine Bn r.2.1 k4 (fun c16 k4 => ?_) fun c16 k4 => ?_
  ·refine Ra hl hf ?_
   rintro g17 s r hl hf
   cases oK k4
   exact ⟨Or.inr rfl, hl, Av (AE r.1) (AE r.2.1)⟩
  obtain ⟨v18, h19, k5⟩ := bnk k4
  refine Ra hl hf ?_
  rintro g20 s r hl hf
  cases oK k5
  exact ⟨Or.inr rfl, hl, Av (AE r.1) (AE r.2.1)⟩
 refine Ra hl hf ?_
 rintro g21 s r hl hf
 cases oK k1
 exact ⟨Or.inr rfl, hl, Av (AE r.1) (AE r.2.1)⟩
def jv := fun a0 => Cq.mk (@ef a0)
theorem Vy {a0 : (Sl Int)} {a1 : (Sl Int)} {r : Bool} (k0 : He a0 a1 = some r) : Fin zL 81 [Enc.enc a0, Enc.enc a1] (.bool r) := by
 unfold He at k0; replace k0 := kq k0
 refine fnN XK Xm ?_
 rintro low s r hl hf
 have q9 := @KD
 refine Ra hl hf ?_
 rintro g1 s r hl hf
 obtain ⟨o6, q, k1⟩ := bnk k0
 refine Rq (fun g8 => [B_ 4 o6]) hl hf q ?_
 rintro g8 s r hl hf
 cases oK k1
 exact ⟨Or.inr rfl, hl, AH (AE r.1)⟩
def ZX := fun a0 a1 => Cq.mk (@Vy a0 a1)
theorem Yz {a0 : BenchBook} {a1 : (Sl (Sl (Sl Int)))} {r : (Sl Int)} (k0 : Et a0 a1 = some r) : Fin zL 55 [Enc.enc a0, Enc.enc a1] (Enc.enc r) := by
 unfold Et at k0; replace k0 := kq k0
 refine fnN LJ Z9 ?_
 rintro low s r hl hf
 have q35 := @VK
 have q36 := @ZX
 have q37 := @NP
 have q38 := @VE
 refine Ra hl hf ?_
 rintro g1 s r hl hf
 obtain ⟨v2, h3, k1⟩ := bnk k0
 have q5 := Fin.call (LP := zL) (ds := [Enc.enc a0, .nils]) (JX h3)
 refine Ra hl hf ?_
 rintro g4 s r hl hf
 refine Ra hl hf ?_
 rintro g6 s r hl hf
 refine blk ?_
 obtain ⟨o10, l11, k2⟩ := bnk k1
 refine AY (f := Ef a0 a1) (E := fun (x : (Sl Int) × Int) s => BG [E_ 1 a1, C_ 2 g1 a0, E_ 5 x.1, I_ 6 x.2] s ∧ s.low = low ∧ NoB LJ s) (Q := fun (y9 : (Sl Int)) j s => j = .exit 0 ∧ BG [C_ 2 g1 a0, E_ 5 y9] s ∧ s.low = low ∧ NoB LJ s) l11 ?_ ⟨r, hl, hf⟩ ?_
 ·rintro ⟨x7, x8⟩ s out ⟨r, hl, hf⟩ k3
  dsimp only at r
  simp only [Ef] at k3
  obtain ⟨v12, h13, k4⟩ := bnk k3
  have q15 := SN h13
  refine Ra hl hf ?_
  rintro g14 s r hl hf
  refine Bn r.2.2.2.2.1 k4 (fun c16 k4 => ?_) fun c16 k4 => ?_
  ·refine blk ?_
   obtain ⟨v17, h18, k5⟩ := bnk k4
   refine Ra hl hf ?_
   rintro g19 s r hl hf
   obtain ⟨o27, q, k6⟩ := bnk k5
   refine Rq (fun g29 => [B_ 35 o27]) hl hf q ?_
   rintro g29 s r hl hf
   refine Bn r.2.2.2.2.2.1 k6 (fun c30 k6 => ?_) fun c30 k6 => ?_
   ·refine Ra hl hf ?_
    rintro g31 s r hl hf
    refine Ra hl hf ?_
    rintro g32 s r hl hf
    obtain rfl := oK k6
    exact ⟨rfl, r, hl, hf⟩
   refine Ra hl hf ?_
   rintro g33 s r hl hf
   obtain rfl := oK k6
   exact ⟨rfl, r, hl, hf⟩
  obtain rfl := oK k4
  exact ⟨by decide, ⟨rfl, ⟨r.2.1, r.2.2.1, trivial⟩, hl, hf⟩⟩
 intro j s hq
 obtain ⟨y9, rfl⟩ : ∃ x, x = o10 := ⟨_, rfl⟩
 try dsimp only at k2 hq
 obtain ⟨rfl, r, hl, hf⟩ := hq
 refine Ra hl hf ?_
 rintro g34 s r hl hf
 cases oK k2
 exact ⟨Or.inr rfl, hl, AH (AE r.1)⟩
def LU := fun a0 a1 => Cq.mk (@Yz a0 a1)
theorem aB {a0 : BenchBook} {r : ((Sl AA) × Int)} (k0 : KB a0 = some r) : Fin zL 22 [Enc.enc a0] (Enc.enc r) := by
 unfold KB at k0; replace k0 := kq k0
 refine fnN dp ep ?_
 rintro low s r hl hf
 have q20 := @Eo
 have q21 := @NP
 have q22 := @EC
 have q23 := @LU
 have q24 := @VE
 have q25 := @Td
 refine Ra hl hf ?_
 rintro g1 s r hl hf
 obtain ⟨v2, h3, k1⟩ := bnk k0
 refine Ra hl hf ?_
 rintro g4 s r hl hf
 refine Ra hl hf ?_
 rintro g5 s r hl hf
 refine JV r.2.2.1 k1 (fun c6 k1 => ?_) fun c6 k1 => ?_
 ·obtain ⟨v7, h8, k2⟩ := bnk k1
  refine Ra hl hf ?_
  rintro g9 s r hl hf
  obtain ⟨v10, h11, k3⟩ := bnk k2
  obtain ⟨v12, h13, k4⟩ := bnk k3
  obtain ⟨v14, h15, k5⟩ := bnk k4
  obtain ⟨v16, h17, k6⟩ := bnk k5
  refine Ra hl hf ?_
  rintro g18 s r hl hf
  cases oK k6
  exact ⟨Or.inr rfl, hl, Av (AE r.1) (AE r.2.1)⟩
 refine Ra hl hf ?_
 rintro g19 s r hl hf
 cases oK k1
 exact ⟨Or.inr rfl, hl, Av (AE r.1) (AE r.2.1)⟩
def fC := fun a0 => Cq.mk (@aB a0)
theorem Jy {a0 : BenchBook} {r : Bool} (k0 : FA a0 = some r) : Fin zL 4 [Enc.enc a0] (.bool r) := by
 unfold FA at k0; replace k0 := kq k0
 refine fnN TQ Si ?_
 rintro low s r hl hf
 have q42 := @U5
 have q43 := @SB
 have q44 := @VJ
 have q45 := @Uz
 have q46 := @LC
 have q47 := @jv
 have q48 := @fC
 have q49 := @lT
 refine Ra hl hf ?_
 rintro g1 s r hl hf
 obtain ⟨v2, h3, k1⟩ := bnk k0
 refine Ra hl hf ?_
 rintro g4 s r hl hf
 obtain ⟨v5, h6, k2⟩ := bnk k1
 refine Ra hl hf ?_
 rintro g7 s r hl hf
 refine Rx (fun g10 => [B_ 26 (if (decide (v2.1 = v5.1)) then (!(decide (v2.2 = v5.2))) else true)]) hl hf ?_
 rintro g10 s r hl hf
 refine Bn r.2.1 k2 (fun c11 k2 => ?_) fun c11 k2 => ?_
 ·refine Ra hl hf ?_
  rintro g12 s r hl hf
  cases oK k2
  exact ⟨Or.inr rfl, hl, AH (AE r.1)⟩
 obtain ⟨v13, h14, k3⟩ := bnk k2
 refine Ra hl hf ?_
 rintro g15 s r hl hf
 obtain ⟨v16, h17, k4⟩ := bnk k3
 refine Ra hl hf ?_
 rintro g18 s r hl hf
 obtain ⟨o22, q, k5⟩ := bnk k4
 refine Rq (fun g24 => [B_ 45 o22]) hl hf q ?_
 rintro g24 s r hl hf
 refine Bn r.2.1 k5 (fun c25 k5 => ?_) fun c25 k5 => ?_
 ·refine Ra hl hf ?_
  rintro g26 s r hl hf
  cases oK k5
  exact ⟨Or.inr rfl, hl, AH (AE r.1)⟩
 obtain ⟨v27, h28, k6⟩ := bnk k5
 refine Ra hl hf ?_
 rintro g29 s r hl hf
 obtain ⟨v30, h31, k7⟩ := bnk k6
 refine Ra hl hf ?_
 rintro g32 s r hl hf
 obtain ⟨o39, q, k8⟩ := bnk k7
 refine Rq (fun g41 => [B_ 2 o39]) hl hf q ?_
 rintro g41 s r hl hf
 cases oK k8
 exact ⟨Or.inr rfl, hl, AH (AE r.1)⟩
def pp := fun a0 => Cq.mk (@Jy a0)
theorem YN {a0 : BenchBook} {r : ((Sl Int) × Int)} (k0 : I1 a0 = some r) : Fin zL 24 [Enc.enc a0] (Enc.enc r) := by
 unfold I1 at k0; replace k0 := kq k0
 refine fnN aI bX ?_
 rintro low s r hl hf
 have q13 := @Eo
 have q14 := @EC
 have q15 := @LU
 refine Ra hl hf ?_
 rintro g1 s r hl hf
 obtain ⟨v2, h3, k1⟩ := bnk k0
 refine Ra hl hf ?_
 rintro g4 s r hl hf
 refine Ra hl hf ?_
 rintro g5 s r hl hf
 refine JV r.2.2.1 k1 (fun c6 k1 => ?_) fun c6 k1 => ?_
 ·obtain ⟨v7, h8, k2⟩ := bnk k1
  obtain ⟨v9, h10, k3⟩ := bnk k2
  refine Ra hl hf ?_
  rintro g11 s r hl hf
  cases oK k3
  exact ⟨Or.inr rfl, hl, Av (AE r.1) (AE r.2.1)⟩
 refine Ra hl hf ?_
 rintro g12 s r hl hf
 cases oK k1
 exact ⟨Or.inr rfl, hl, Av (AE r.1) (AE r.2.1)⟩
def Z7 := fun a0 => Cq.mk (@YN a0)
theorem gC {a0 : BenchBook} {r : ((Sl Int) × Int)} (k0 : MS a0 = some r) : Fin zL 26 [Enc.enc a0] (Enc.enc r) := by
 unfold MS at k0; replace k0 := kq k0
 refine fnN PH iR ?_
 rintro low s r hl hf
 have q37 := @Eo
 have q38 := @EC
 have q39 := @LU
 refine Ra hl hf ?_
 rintro g1 s r hl hf
 obtain ⟨v2, h3, k1⟩ := bnk k0
 refine Ra hl hf ?_
 rintro g4 s r hl hf
 refine Ra hl hf ?_
 rintro g5 s r hl hf
 refine JV r.2.2.1 k1 (fun c6 k1 => ?_) fun c6 k1 => ?_
 ·obtain ⟨v7, h8, k2⟩ := bnk k1
  obtain ⟨v9, h10, k3⟩ := bnk k2
  refine Ra hl hf ?_
  rintro g11 s r hl hf
  refine Ra hl hf ?_
  rintro g12 s r hl hf
  refine blk ?_
  obtain ⟨o16, l17, k4⟩ := bnk k3
  refine AY (f := GR a0 v9) (E := fun (x : (Sl Int) × Int) s => BG [C_ 1 g1 a0, (5, .v (Sl.lv x.1)), I_ 6 v9.len, I_ 7 x.2] s ∧ s.low = low ∧ NoB PH s) (Q := fun (y15 : (Sl Int)) j s => j = .exit 0 ∧ BG [C_ 1 g1 a0, (5, .v (Sl.lv y15))] s ∧ s.low = low ∧ NoB PH s) l17 ?_ ⟨r, hl, hf⟩ ?_
  ·rintro ⟨x13, x14⟩ s out ⟨r, hl, hf⟩ k5
   dsimp only at r
   simp only [GR] at k5
   refine Ra hl hf ?_
   rintro g18 s r hl hf
   refine Bn r.2.2.2.2.1 k5 (fun c19 k5 => ?_) fun c19 k5 => ?_
   ·refine blk ?_
    obtain ⟨v20, h21, k6⟩ := bnk k5
    obtain ⟨v22, h23, k7⟩ := bnk k6
    obtain ⟨v24, h25, k8⟩ := bnk k7
    have q27 := SN h21
    refine Ra hl hf ?_
    rintro g26 s r hl hf
    refine Bn r.2.2.2.2.1 k8 (fun c28 k8 => ?_) fun c28 k8 => ?_
    ·obtain ⟨v29, h30, k9⟩ := bnk k8
     have q32 := DZ (sz := 1) (x := x13) (y := (Sl.cold [x14] : Sl Int)) rfl rfl h30
     refine Ra hl hf ?_
     rintro g31 s r hl hf
     refine Ra hl hf ?_
     rintro g33 s r hl hf
     obtain rfl := oK k9
     exact ⟨rfl, r, hl, hf⟩
    refine Ra hl hf ?_
    rintro g34 s r hl hf
    obtain rfl := oK k8
    exact ⟨rfl, r, hl, hf⟩
   obtain rfl := oK k5
   exact ⟨by decide, ⟨rfl, ⟨r.1, r.2.1, trivial⟩, hl, hf⟩⟩
  intro j s hq
  obtain ⟨y15, rfl⟩ : ∃ x, x = o16 := ⟨_, rfl⟩
  try dsimp only at k4 hq
  obtain ⟨rfl, r, hl, hf⟩ := hq
  refine Ra hl hf ?_
  rintro g35 s r hl hf
  cases oK k4
  exact ⟨Or.inr rfl, hl, Av (JI r.1) (AE r.2.1)⟩
 refine Ra hl hf ?_
 rintro g36 s r hl hf
 cases oK k1
 exact ⟨Or.inr rfl, hl, Av (AE r.1) (AE r.2.1)⟩
def ir := fun a0 => Cq.mk (@gC a0)
theorem I0 {a0 : BenchBook} {r : Bool} (k0 : ED a0 = some r) : Fin zL 5 [Enc.enc a0] (.bool r) := by
 unfold ED at k0; replace k0 := kq k0
 refine fnN P9 QB ?_
 rintro low s r hl hf
 have q31 := @QU
 have q32 := @Vi
 have q33 := @LC
 have q34 := @Jk
 have q35 := @Z7
 have q36 := @ir
 refine Ra hl hf ?_
 rintro g1 s r hl hf
 obtain ⟨v2, h3, k1⟩ := bnk k0
 refine Ra hl hf ?_
 rintro g4 s r hl hf
 obtain ⟨v5, h6, k2⟩ := bnk k1
 refine Ra hl hf ?_
 rintro g7 s r hl hf
 obtain ⟨o11, q, k3⟩ := bnk k2
 refine Rq (fun g13 => [B_ 25 o11]) hl hf q ?_
 rintro g13 s r hl hf
 refine Bn r.2.1 k3 (fun c14 k3 => ?_) fun c14 k3 => ?_
 ·refine Ra hl hf ?_
  rintro g15 s r hl hf
  cases oK k3
  exact ⟨Or.inr rfl, hl, AH (AE r.1)⟩
 obtain ⟨v16, h17, k4⟩ := bnk k3
 refine Ra hl hf ?_
 rintro g18 s r hl hf
 obtain ⟨v19, h20, k5⟩ := bnk k4
 refine Ra hl hf ?_
 rintro g21 s r hl hf
 obtain ⟨o28, q, k6⟩ := bnk k5
 refine Rq (fun g30 => [B_ 2 o28]) hl hf q ?_
 rintro g30 s r hl hf
 cases oK k6
 exact ⟨Or.inr rfl, hl, AH (AE r.1)⟩
def lm := fun a0 => Cq.mk (@I0 a0)
theorem Ul {a0 : AC} {a1 : AL} {a2 : Int} {r : Bool} (k0 : QH a0 a1 a2 = some r) : Fin zL 82 [Enc.enc a0, Enc.enc a1, .int a2] (.bool r) := by
 unfold QH at k0; replace k0 := kq k0
 refine fnN D8 G3 ?_
 rintro low s r hl hf
 have q26 := @SZ
 refine Ra hl hf ?_
 rintro g1 s r hl hf
 obtain ⟨v2, h3, k1⟩ := bnk k0
 refine Ra hl hf ?_
 rintro g4 s r hl hf
 obtain ⟨v5, h6, k2⟩ := bnk k1
 refine Ra hl hf ?_
 rintro g7 s r hl hf
 refine Ra hl hf ?_
 rintro g8 s r hl hf
 refine blk ?_
 obtain ⟨o11, l12, k3⟩ := bnk k2
 refine AY (f := IS a0 a2 v2 v5) (E := fun (x : Int) s => BG [I_ 2 a2, C_ 3 g1 a0, C_ 7 (g4 + 1 + 1 + 1 + 1 + 1 + 1 + 1) v2, C_ 8 (g7 + 1 + 1 + 1 + 1 + 1 + 1 + 1) v5.Notes, I_ 31 (W ((W (v5.Notes.High - v5.Notes.Low)) + 1)), I_ 32 x] s ∧ s.low = low ∧ NoB D8 s) (Q := fun (o : ((Bool) ⊕ (Unit))) j s => match o with | .inl w10 => j = .ret ∧ FnJ G3.1 low (.d (.bool w10)) .ret s | .inr _ => j = .exit 0 ∧ BG [C_ 3 g1 a0, C_ 7 (g4 + 1 + 1 + 1 + 1 + 1 + 1 + 1) v2, C_ 8 (g7 + 1 + 1 + 1 + 1 + 1 + 1 + 1) v5.Notes] s ∧ s.low = low ∧ NoB D8 s) l12 ?_ ⟨r, hl, hf⟩ ?_
 ·rintro x9 s out ⟨r, hl, hf⟩ k4
  unfold IS at k4
  refine Ra hl hf ?_
  rintro g13 s r hl hf
  refine Bn r.2.2.2.2.2.2.1 k4 (fun c14 k4 => ?_) fun c14 k4 => ?_
  ·refine blk <| Ra hl hf ?_
   rintro g15 s r hl hf
   obtain ⟨v16, h17, k5⟩ := bnk k4
   refine Ra hl hf ?_
   rintro g18 s r hl hf
   refine Rx (fun g21 => [B_ 54 (if (decide (v16.2 = 0)) then (decide (v16.1 < 2)) else true)]) hl hf ?_
   rintro g21 s r hl hf
   refine Bn r.2.2.2.2.2.2.1 k5 (fun c22 k5 => ?_) fun c22 k5 => ?_
   ·refine Ra hl hf ?_
    rintro g23 s r hl hf
    obtain rfl := oK k5
    exact ⟨by decide, ⟨rfl, ⟨Or.inr rfl, hl, AH (AE r.1)⟩⟩⟩
   refine Ra hl hf ?_
   rintro g24 s r hl hf
   obtain rfl := oK k5
   exact ⟨rfl, r, hl, hf⟩
  obtain rfl := oK k4
  exact ⟨by decide, ⟨rfl, ⟨r.2.1, r.2.2.1, r.2.2.2.1, trivial⟩, hl, hf⟩⟩
 intro j s hq
 rcases o11 with w10 | _
 ·try dsimp only at k3 hq
  obtain ⟨rfl, hq⟩ := hq
  cases oK k3
  exact hq
 try dsimp only at k3 hq
 obtain ⟨rfl, r, hl, hf⟩ := hq
 refine Ra hl hf ?_
 rintro g25 s r hl hf
 cases oK k3
 exact ⟨Or.inr rfl, hl, AH (AE r.1)⟩
def sJ := fun a0 a1 a2 => Cq.mk (@Ul a0 a1 a2)
theorem RR {a0 : AB} {a1 : Int} {a2 : (Ar 5 Int)} {a3 : (Sl Int)} {r : Bool} (k0 : N6 a0 a1 a2 a3 = some r) : Fin zL 112 [Enc.enc a0, .int a1, Enc.enc a2, Enc.enc a3] (.bool r) := by
 unfold N6 at k0; replace k0 := kq k0
 refine fnN C3 FZ ?_
 rintro low s r hl hf
 have q28 := @IP
 refine Ra hl hf ?_
 rintro g1 s r hl hf
 refine Ra hl hf ?_
 rintro g2 s r hl hf
 refine blk ?_
 obtain ⟨o5, l6, k1⟩ := bnk k0
 refine AY (f := G4 a0 a1 a2 a3) (E := fun (x : Int) s => BG [I_ 1 a1, E_ 3 a3, C_ 4 g1 a0, C_ 6 (g1 + 1) a2, E_ 13 a0.VoiceBook.Trials, I_ 14 a0.VoiceBook.Trials.len, I_ 15 x] s ∧ s.low = low ∧ NoB C3 s) (Q := fun (o : ((Bool) ⊕ (Unit))) j s => match o with | .inl w4 => j = .ret ∧ FnJ FZ.1 low (.d (.bool w4)) .ret s | .inr _ => j = .exit 0 ∧ BG [C_ 4 g1 a0, C_ 6 (g1 + 1) a2] s ∧ s.low = low ∧ NoB C3 s) l6 ?_ ⟨r, hl, hf⟩ ?_
 ·rintro x3 s out ⟨r, hl, hf⟩ k2
  unfold G4 at k2
  refine Ra hl hf ?_
  rintro g7 s r hl hf
  refine Bn r.2.2.2.2.2.2.2.1 k2 (fun c8 k2 => ?_) fun c8 k2 => ?_
  ·refine blk ?_
   obtain ⟨v9, h10, k3⟩ := bnk k2
   refine Ra hl hf ?_
   rintro g11 s r hl hf
   obtain ⟨o19, q20, k4⟩ := bnk k3
   refine nZ [I_ 1 a1, E_ 3 a3, C_ 4 g1 a0, C_ 6 (g1 + 1) a2, E_ 13 a0.VoiceBook.Trials, I_ 14 a0.VoiceBook.Trials.len, I_ 15 x3, B_ 43 o19] hl hf ?_ ?_
   ·by_cases c12 : (decide (v9.Boy = a1)) = true
    ·rw [if_pos c12] at q20
     obtain ⟨v13, h14, q25⟩ := bnd q20
     by_cases c15 : v13 = true
     ·rw [if_pos c15] at q25
      have e1 := oI q25
      simp only [rs, ps, hl, nob hf, r, c12, (EL h14).call, c15, ← e1, reduceCtorEq, Nat.reduceEqDiff, Nat.reduceAdd]
     rw [if_neg c15] at q25
     have c15 := eq_false_of_ne_true c15
     obtain ⟨v17, h18, q26⟩ := bnd q25
     have e1 := oI q26
     obtain ⟨c16, hc16⟩ := Hk (LP := zL) (ds := [Enc.enc a0, .int a1, Enc.enc a2, .int v9.Week, .int v9.Note]) (IQ h18); simp only [List.map_cons, List.map_nil] at hc16
     simp only [rs, ps, hl, nob hf, r, c12, (EL h14).call, c15, hc16, ← e1, reduceCtorEq, Nat.reduceEqDiff, Nat.reduceAdd]
    rw [if_neg c12] at q20
    have c12 := eq_false_of_ne_true c12
    have e1 := oI q20
    simp only [rs, ps, hl, nob hf, r, c12, ← e1, reduceCtorEq, Nat.reduceEqDiff, Nat.reduceAdd]
   rintro s r hl hf
   refine Bn r.2.2.2.2.2.2.2.1 k4 (fun c22 k4 => ?_) fun c22 k4 => ?_
   ·refine Ra hl hf ?_
    rintro g23 s r hl hf
    obtain rfl := oK k4
    exact ⟨by decide, ⟨rfl, ⟨Or.inr rfl, hl, AH (AE r.1)⟩⟩⟩
   refine Ra hl hf ?_
   rintro g24 s r hl hf
   obtain rfl := oK k4
   exact ⟨rfl, r, hl, hf⟩
  obtain rfl := oK k2
  exact ⟨by decide, ⟨rfl, ⟨r.2.2.1, r.2.2.2.1, trivial⟩, hl, hf⟩⟩
 intro j s hq
 rcases o5 with w4 | _
 ·try dsimp only at k1 hq
  obtain ⟨rfl, hq⟩ := hq
  cases oK k1
  exact hq
 try dsimp only at k1 hq
 obtain ⟨rfl, r, hl, hf⟩ := hq
 refine Ra hl hf ?_
 rintro g27 s r hl hf
 cases oK k1
 exact ⟨Or.inr rfl, hl, AH (AE r.1)⟩
def ol := fun a0 a1 a2 a3 => Cq.mk (@RR a0 a1 a2 a3)
end Go.Lf
