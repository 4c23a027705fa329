/- A part of the proof. -/
import Derived.Test.YtbkliocalcihjaaDoorx20
import Derived.Test.YtbkliocalcihjaaDoorx22
import Derived.Test.YtbkliocalcihjaaDoorx43
import Derived.Test.YtbkliocalcihjaaDoorx44
set_option linter.all false
set_option maxHeartbeats 9999999
namespace Go.Lf
open Go
theorem fF {a0 : BenchBook} {a1 : Int} {a2 : Int} {r : ((Sl Int) × Int)} (k0 : FY a0 a1 a2 = some r) : zj zL 18 [Enc.enc a0, .int a1, .int a2] (Enc.enc r) := by
 unfold FY at k0; replace k0 := kq k0
 refine fnN iq gR ?_
 rintro low s r hl hf
 have q23 := @ai
 have q24 := @V0
 have q25 := @JO
 refine Ra hl hf ?_
 rintro g1 s r hl hf
 obtain ⟨⟨o9, o10⟩, q, k1⟩ := bnk k0
 try dsimp only at k1
 refine Rq (fun g12 => [C_ 8 (g12 + 1 + 1 + 1 + 1 + 1 + 1 + 1 + 1 + 1 + 1 + 1 + 1 + 1 + 1 + 1 + 1 + 1 + 1 + 1 + 1) o9, I_ 9 o10]) hl hf q ?_
 rintro g12 s r hl hf
 refine Ra hl hf ?_
 rintro g13 s r hl hf
 refine Rz r.2.2.2.2.1 k1 (fun c14 k1 => ?_) fun c14 k1 => ?_
 ·have q16 := @JI
  have q17 := fun s ro => j3 (n := 2) s ro o9.able (AQ.mk a1 a2) (Sl.nil : (Sl Int)) (.nils) rfl (by decide) rfl
  refine Ra hl hf ?_
  rintro g15 s r hl hf
  obtain ⟨v18, h19, k2⟩ := bnk k1
  have q21 := de (sz := 1) rfl h19
  refine Ra hl hf ?_
  rintro g20 s r hl hf
  cases oK k2
  exact ⟨Or.inr rfl, hl, CV (jx r.1) (AZ r.2.1)⟩
 refine Ra hl hf ?_
 rintro g22 s r hl hf
 cases oK k1
 exact ⟨Or.inr rfl, hl, CV (AZ r.1) (AZ r.2.1)⟩
def VN := fun a0 a1 a2 => Cq.mk (@fF a0 a1 a2)
def WF : ∀ (a0 : Int), ∀ (a1 : (Sl Int)), ∀ (a2 : (Sl B7)), (Cq zL 23 [.int a0, Enc.enc a1, Enc.enc a2] (MG a0 a1 a2) fun x => .d (Enc.enc x)) := fun a0 a1 a2 => gx
theorem sg {a0 : Int} {a1 : (Sl Int)} {a2 : (Sl B7)} {x : BK} (h : MG a0 a1 a2 = some x) : A5 (om zL) 23 [.int a0, Enc.enc a1, Enc.enc a2] = some (.d (Enc.enc x)) := Eq.trans (WF a0 a1 a2) (by rw [h]; rfl)
def PV : ∀ (a0 : BK), ∀ (a1 : Int), ∀ (a2 : Int), (Cq zL 24 [Enc.enc a0, .int a1, .int a2] (HM a0 a1 a2) fun x => .d (Enc.enc x)) := fun a0 a1 a2 => gx
theorem qB {a0 : BK} {a1 : Int} {a2 : Int} {x : (BJ × Int)} (h : HM a0 a1 a2 = some x) : A5 (om zL) 24 [Enc.enc a0, .int a1, .int a2] = some (.d (Enc.enc x)) := Eq.trans (PV a0 a1 a2) (by rw [h]; rfl)
def QC : ∀ (a0 : BK), (Cq zL 26 [Enc.enc a0] (E4 a0) fun x => .d (Enc.enc x)) := fun a0 => gx
theorem py {a0 : BK} {x : OrganBook} (h : E4 a0 = some x) : A5 (om zL) 26 [Enc.enc a0] = some (.d (Enc.enc x)) := Eq.trans (QC a0) (by rw [h]; rfl)
def O0 : ∀ (a0 : OrganBook), ∀ (a1 : Int), (Cq zL 25 [Enc.enc a0, .int a1] (G5 a0 a1) fun x => .d (Enc.enc x)) := fun a0 a1 => gx
theorem pu {a0 : OrganBook} {a1 : Int} {x : (BJ × Int)} (h : G5 a0 a1 = some x) : A5 (om zL) 25 [Enc.enc a0, .int a1] = some (.d (Enc.enc x)) := Eq.trans (O0 a0 a1) (by rw [h]; rfl)
def Pz : ∀ (a0 : BK), ∀ (a1 : Int), (Cq zL 27 [Enc.enc a0, .int a1] (G1 a0 a1) fun x => .d (Enc.enc x)) := fun a0 a1 => gx
theorem pr {a0 : BK} {a1 : Int} {x : (BJ × Int)} (h : G1 a0 a1 = some x) : A5 (om zL) 27 [Enc.enc a0, .int a1] = some (.d (Enc.enc x)) := Eq.trans (Pz a0 a1) (by rw [h]; rfl)
def PM : ∀ (a0 : OrganBook), ∀ (a1 : Int), ∀ (a2 : Int), (Cq zL 28 [Enc.enc a0, .int a1, .int a2] (G7 a0 a1 a2) fun x => .d (Enc.enc x)) := fun a0 a1 a2 => gx
theorem qA {a0 : OrganBook} {a1 : Int} {a2 : Int} {x : (BJ × Int)} (h : G7 a0 a1 a2 = some x) : A5 (om zL) 28 [Enc.enc a0, .int a1, .int a2] = some (.d (Enc.enc x)) := Eq.trans (PM a0 a1 a2) (by rw [h]; rfl)
theorem YE {a0 : (Sl Int)} {a1 : (Sl Int)} {r : Bool} (k0 : E8 a0 a1 = some r) : zj zL 29 [Enc.enc a0, Enc.enc a1] (.bool r) := by
 unfold E8 at k0; replace k0 := kq k0
 refine fnN Kv bT ?_
 rintro low s r hl hf
 refine Ra hl hf ?_
 rintro g1 s r hl hf
 refine Ra hl hf ?_
 rintro g2 s r hl hf
 refine Ra hl hf ?_
 rintro g3 s r hl hf
 refine blk ?_
 obtain ⟨o7, l8, k1⟩ := bnk k0
 refine Bf (f := HW a0 a1) (E := fun (x : Bool × Int) s => Em [E_ 0 a0, E_ 1 a1, B_ 5 x.1, I_ 6 x.2] s ∧ s.low = low ∧ NoB Kv s) (Q := fun (y6 : Bool) j s => j = .exit 0 ∧ Em [B_ 5 y6] s ∧ s.low = low ∧ NoB Kv s) l8 ?_ ⟨r, hl, hf⟩ ?_
 ·rintro ⟨x4, x5⟩ s out ⟨r, hl, hf⟩ k2
  dsimp only at r
  simp only [HW] at k2
  refine Rx (fun g11 => [B_ 18 (x4 && (decide (x5 < a0.len)))]) hl hf ?_
  rintro g11 s r hl hf
  refine IJ r.2.2.2.2.1 k2 (fun c12 k2 => ?_) fun c12 k2 => ?_
  ·refine blk ?_
   obtain ⟨v13, h14, k3⟩ := bnk k2
   obtain ⟨v15, h16, k4⟩ := bnk k3
   refine Ra hl hf ?_
   rintro g17 s r hl hf
   refine Ra hl hf ?_
   rintro g18 s r hl hf
   obtain rfl := oK k4
   exact ⟨rfl, r, hl, hf⟩
  obtain rfl := oK k2
  exact ⟨by decide, ⟨rfl, ⟨r.2.2.1, trivial⟩, hl, hf⟩⟩
 intro j s hq
 obtain ⟨y6, rfl⟩ : ∃ x, x = o7 := ⟨_, rfl⟩
 try dsimp only at k1 hq
 obtain ⟨rfl, r, hl, hf⟩ := hq
 refine Ra hl hf ?_
 rintro g19 s r hl hf
 cases oK k1
 exact ⟨Or.inr rfl, hl, AS (AZ r.1)⟩
def cS := fun a0 a1 => Cq.mk (@YE a0 a1)
theorem YV {r : Bool} (k0 : CX = some r) : zj zL 6 [] (.bool r) := by
 unfold CX at k0; replace k0 := kq k0
 refine fnN cL aM ?_
 rintro low s - hl hf
 have q49 := @VN
 have q50 := @Pz
 have q51 := @PV
 have q52 := @PM
 have q53 := @Ld
 have q54 := @O0
 have q55 := @He
 have q56 := @cS
 have q57 := @P7
 have q58 := @Zx
 have q59 := @QC
 have q60 := @WF
 have q61 := @PS
 refine Ra hl hf ?_
 rintro g1 s - hl hf
 refine Ra hl hf ?_
 rintro g2 s r hl hf
 obtain ⟨v3, h4, k1⟩ := bnk k0
 refine Ra hl hf ?_
 rintro g5 s r hl hf
 obtain ⟨v6, h7, k2⟩ := bnk k1
 obtain ⟨v8, h9, k3⟩ := bnk k2
 refine Ra hl hf ?_
 rintro g10 s r hl hf
 obtain ⟨v11, h12, k4⟩ := bnk k3
 have q14 := @Es
 refine Ra hl hf ?_
 rintro g13 s r hl hf
 obtain ⟨v15, h16, k5⟩ := bnk k4
 refine Ra hl hf ?_
 rintro g17 s r hl hf
 obtain ⟨v18, h19, k6⟩ := bnk k5
 obtain ⟨v20, h21, k7⟩ := bnk k6
 refine Ra hl hf ?_
 rintro g22 s r hl hf
 obtain ⟨v23, h24, k8⟩ := bnk k7
 refine Ra hl hf ?_
 rintro g25 s r hl hf
 obtain ⟨v26, h27, k9⟩ := bnk k8
 try clear h19
 obtain ⟨v28, h29, k10⟩ := bnk k9
 refine Ra hl hf ?_
 rintro g30 s r hl hf
 obtain ⟨o46, q, k11⟩ := bnk k10
 refine Rq (fun g48 => [B_ 0 o46]) hl hf q ?_
 rintro g48 s r hl hf
 cases oK k11
 exact ⟨Or.inr rfl, hl, AS (AZ r.1)⟩
def aI := Cq.mk (@YV)
theorem Z5 {a0 : Int} {a1 : Int} {r : Int} (k0 : Eh a0 a1 = some r) : zj zL 7 [.int a0, .int a1] (.int r) := by
 unfold Eh at k0; replace k0 := kq k0
 refine fnN fB fe ?_
 rintro low s r hl hf
 refine Ra hl hf ?_
 rintro g1 s r hl hf
 refine Ra hl hf ?_
 rintro g2 s r hl hf
 refine IJ r.2.2.1 k0 (fun c3 k0 => ?_) fun c3 k0 => ?_
 ·refine Ra hl hf ?_
  rintro g4 s r hl hf
  cases oK k0
  exact ⟨Or.inr rfl, hl, AS (AZ r.1)⟩
 obtain ⟨v5, h6, k1⟩ := bnk k0
 have q8 := bv h6
 refine Ra hl hf ?_
 rintro g7 s r hl hf
 refine Ra hl hf ?_
 rintro g9 s r hl hf
 refine IJ r.2.2.1 k1 (fun c10 k1 => ?_) fun c10 k1 => ?_
 ·refine Ra hl hf ?_
  rintro g11 s r hl hf
  refine Ra hl hf ?_
  rintro g12 s r hl hf
  cases oK k1
  exact ⟨Or.inr rfl, hl, AS (AZ r.1)⟩
 refine Ra hl hf ?_
 rintro g13 s r hl hf
 cases oK k1
 exact ⟨Or.inr rfl, hl, AS (AZ r.1)⟩
def dF := fun a0 a1 => Cq.mk (@Z5 a0 a1)
theorem LM : zj zL 37 [] (Enc.enc (bu)) := by
 refine fnN WT Uf ?_
 rintro low s - hl hf
 have q2 := @Pe
 refine Ra hl hf ?_
 rintro g1 s r hl hf
 have q4 := @IM
 refine Ra hl hf ?_
 rintro g3 s r hl hf
 exact ⟨Or.inr rfl, hl, AS (Be r.1 rfl)⟩
def og := LM.call
theorem On (a0 : Int) (a1 : Int) : zj zL 61 [.int a0, .int a1] (.bool (ID a0 a1)) := by
 refine fnN QA PI ?_
 rintro low s r hl hf
 refine Ra hl hf ?_
 rintro g1 s r hl hf
 have q3 := @ox
 have q4 := @nE
 refine Ra hl hf ?_
 rintro g2 s r hl hf
 refine Rx (fun g8 => [B_ 4 ((decide ((max a0 (W (0 - a0))) < (max a1 (W (0 - a1))))) || ((decide ((max a0 (W (0 - a0))) = (max a1 (W (0 - a1))))) && (decide (a0 < a1))))]) hl hf ?_
 rintro g8 s r hl hf
 exact ⟨Or.inr rfl, hl, AS (AZ r.1)⟩
def QM := fun a0 a1 => (On a0 a1).call
theorem cB {a0 : OrganBook} {a1 : Int} {a2 : (Sl AC)} {r : (Int × Int)} (k0 : FI a0 a1 a2 = some r) : zj zL 11 [Enc.enc a0, .int a1, Enc.enc a2] (Enc.enc r) := by
 unfold FI at k0; replace k0 := kq k0
 refine fnN L0 eo ?_
 rintro low s r hl hf
 have q36 := @Ld
 have q37 := @QM
 refine Ra hl hf ?_
 rintro g1 s r hl hf
 obtain ⟨v2, h3, k1⟩ := bnk k0
 refine Ra hl hf ?_
 rintro g4 s r hl hf
 refine Ra hl hf ?_
 rintro g5 s r hl hf
 refine Rz r.2.2.1 k1 (fun c6 k1 => ?_) fun c6 k1 => ?_
 ·refine Ra hl hf ?_
  rintro g7 s r hl hf
  refine IJ r.2.1 k1 (fun c8 k1 => ?_) fun c8 k1 => ?_
  ·refine Ra hl hf ?_
   rintro g9 s r hl hf
   cases oK k1
   exact ⟨Or.inr rfl, hl, CV (AZ r.1) (AZ r.2.1)⟩
  obtain ⟨v10, h11, k2⟩ := bnk k1
  have q13 := @Pe
  have q14 := zj.call (LP := zL) (n := 37) (ds := []) (v := .agg [.fn 61 [] []]) (LM)
  refine Ra hl hf ?_ (h := by intro c; simp only [(show LV.known (.d (.agg [.fn 61 [] []])) = some [.d (.fn 61 [] [])] from rfl), (show Da 1 0 [.d (.fn 61 [] [])] ((Enc.cells (E9.mk Fv.nil)).map LV.d) = some [.d (.fn 61 [] [])] from rfl), rt, ps, nob hf, *, reduceCtorEq, Nat.reduceEqDiff, Nat.reduceAdd, Nat.reduceMul] <;> rfl)
  rintro g12 s r hl hf
  refine Ra hl hf ?_
  rintro g17 s r hl hf
  refine blk ?_
  obtain ⟨o21, l22, k3⟩ := bnk k2
  refine Bf (f := EJ v2) (E := fun (x : Int × Int) s => Em [I_ 10 x.1, (11, .box (g12 + 1 + 1 + 1 + 1) [.d (.fn 61 [] [])]), E_ 31 v2.1, I_ 32 v2.1.len, I_ 33 x.2] s ∧ s.low = low ∧ NoB L0 s) (Q := fun (y20 : Int) j s => j = .exit 0 ∧ Em [I_ 10 y20, (11, .box (g12 + 1 + 1 + 1 + 1) [.d (.fn 61 [] [])])] s ∧ s.low = low ∧ NoB L0 s) l22 ?_ ⟨r, hl, hf⟩ ?_
  ·rintro ⟨x18, x19⟩ s out ⟨r, hl, hf⟩ k4
   dsimp only at r
   simp only [EJ] at k4
   refine Ra hl hf ?_
   rintro g23 s r hl hf
   refine IJ r.2.2.2.2.2.1 k4 (fun c24 k4 => ?_) fun c24 k4 => ?_
   ·refine blk ?_
    obtain ⟨v25, h26, k5⟩ := bnk k4
    refine Ra hl hf ?_
    rintro g27 s r hl hf
    have q29 := @RP
    refine Ra hl hf ?_
    rintro g28 s r hl hf
    refine IJ r.2.2.2.2.2.2.1 k5 (fun c30 k5 => ?_) fun c30 k5 => ?_
    ·refine Ra hl hf ?_
     rintro g31 s r hl hf
     refine Ra hl hf ?_
     rintro g32 s r hl hf
     obtain rfl := oK k5
     exact ⟨rfl, r, hl, hf⟩
    refine Ra hl hf ?_
    rintro g33 s r hl hf
    obtain rfl := oK k5
    exact ⟨rfl, r, hl, hf⟩
   obtain rfl := oK k4
   exact ⟨by decide, ⟨rfl, ⟨r.1, r.2.1, trivial⟩, hl, hf⟩⟩
  intro j s hq
  obtain ⟨y20, rfl⟩ : ∃ x, x = o21 := ⟨_, rfl⟩
  try dsimp only at k3 hq
  obtain ⟨rfl, r, hl, hf⟩ := hq
  refine Ra hl hf ?_
  rintro g34 s r hl hf
  cases oK k3
  exact ⟨Or.inr rfl, hl, CV (AZ r.1) (AZ r.2.1)⟩
 refine Ra hl hf ?_
 rintro g35 s r hl hf
 cases oK k1
 exact ⟨Or.inr rfl, hl, CV (AZ r.1) (AZ r.2.1)⟩
def dU := fun a0 a1 a2 => Cq.mk (@cB a0 a1 a2)
theorem XW {a0 : OrganBook} {r : (BJ × Int)} (k0 : Fq a0 = some r) : zj zL 12 [Enc.enc a0] (Enc.enc r) := by
 unfold Fq at k0; replace k0 := kq k0
 refine fnN cI aZ ?_
 rintro low s r hl hf
 have q13 := @Pi
 have q14 := @JF
 have q2 := @ZJ
 refine Ra hl hf ?_
 rintro g1 s r hl hf
 obtain ⟨v3, h4, k1⟩ := bnk k0
 refine Ra hl hf ?_
 rintro g5 s r hl hf
 refine Ra hl hf ?_
 rintro g6 s r hl hf
 refine Rz r.2.2.2.1 k1 (fun c7 k1 => ?_) fun c7 k1 => ?_
 ·obtain ⟨v8, h9, k2⟩ := bnk k1
  refine Ra hl hf ?_
  rintro g10 s r hl hf
  cases oK k2
  exact ⟨Or.inr rfl, hl, CV (Be r.1 rfl) (AZ r.2.1)⟩
 have q12 := @uA
 refine Ra hl hf ?_
 rintro g11 s r hl hf
 cases oK k1
 exact ⟨Or.inr rfl, hl, CV (Be r.1 rfl) (AZ r.2.1)⟩
def cR := fun a0 => Cq.mk (@XW a0)
theorem Yg {a0 : (Sl Int)} {a1 : Int} {r : Int} (k0 : ES a0 a1 = some r) : zj zL 15 [Enc.enc a0, .int a1] (.int r) := by
 unfold ES at k0; replace k0 := kq k0
 refine fnN Kw Pq ?_
 rintro low s r hl hf
 refine Ra hl hf ?_
 rintro g1 s r hl hf
 refine Ra hl hf ?_
 rintro g2 s r hl hf
 refine blk ?_
 obtain ⟨o5, l6, k1⟩ := bnk k0
 refine Bf (f := Bn a0 a1) (E := fun (x : Int) s => Em [E_ 0 a0, I_ 1 a1, I_ 5 x] s ∧ s.low = low ∧ NoB Kw s) (Q := fun (o : ((Int) ⊕ (Unit))) j s => match o with | .inl w4 => j = .ret ∧ FnJ Pq.1 low (.d (.int w4)) .ret s | .inr _ => j = .exit 0 ∧ Em [] s ∧ s.low = low ∧ NoB Kw s) l6 ?_ ⟨r, hl, hf⟩ ?_
 ·rintro x3 s out ⟨r, hl, hf⟩ k2
  unfold Bn at k2
  refine Ra hl hf ?_
  rintro g7 s r hl hf
  refine IJ r.2.2.2.1 k2 (fun c8 k2 => ?_) fun c8 k2 => ?_
  ·refine blk ?_
   obtain ⟨v9, h10, k3⟩ := bnk k2
   refine Ra hl hf ?_
   rintro g11 s r hl hf
   refine IJ r.2.2.2.1 k3 (fun c12 k3 => ?_) fun c12 k3 => ?_
   ·refine Ra hl hf ?_
    rintro g13 s r hl hf
    obtain rfl := oK k3
    exact ⟨by decide, ⟨rfl, ⟨Or.inr rfl, hl, AS (AZ r.1)⟩⟩⟩
   refine Ra hl hf ?_
   rintro g14 s r hl hf
   obtain rfl := oK k3
   exact ⟨rfl, r, hl, hf⟩
  obtain rfl := oK k2
  exact ⟨by decide, ⟨rfl, trivial, hl, hf⟩⟩
 intro j s hq
 rcases o5 with w4 | _
 ·try dsimp only at k1 hq
  obtain ⟨rfl, hq⟩ := hq
  cases oK k1
  exact hq
 try dsimp only at k1 hq
 obtain ⟨rfl, -, hl, hf⟩ := hq
 refine Ra hl hf ?_
 rintro g15 s r hl hf
 cases oK k1
 exact ⟨Or.inr rfl, hl, AS (AZ r.1)⟩
def aQ := fun a0 a1 => Cq.mk (@Yg a0 a1)
theorem Nv {a0 : VoiceBook} {a1 : (Sl AC)} {a2 : (Ar 3 Int)} {r : Bool} (k0 : Iq a0 a1 a2 = some r) : zj zL 3 [Enc.enc a0, Enc.enc a1, Enc.enc a2] (.bool r) := by
 unfold Iq at k0; replace k0 := kq k0
 refine fnN Gg Oy ?_
 rintro low s r hl hf
 have q158 := @VN
 have q159 := @O3
 have q160 := @dU
 have q161 := @Ld
 have q162 := @cR
 have q163 := @He
 have q164 := @fD
 have q165 := @MK
 have q166 := @dF
 have q167 := @aQ
 have q168 := @P7
 have q169 := @aI
 have q170 := @PS
 have q171 := @Gl
 have q172 := @J8
 refine Ra hl hf ?_
 rintro g1 s r hl hf
 obtain ⟨o6, q, k2⟩ := bnk k0
 refine Rq (fun g8 => [B_ 42 o6]) hl hf q ?_
 rintro g8 s r hl hf
 refine IJ r.2.2.2.1 k2 (fun c9 k2 => ?_) fun c9 k2 => ?_
 ·obtain ⟨v10, h11, k3⟩ := bnk k2
  refine Ra hl hf ?_
  rintro g12 s r hl hf
  cases oK k3
  exact ⟨Or.inr rfl, hl, AS (AZ r.1)⟩
 refine Ra hl hf ?_
 rintro g13 s r hl hf
 refine Ra hl hf ?_
 rintro g14 s r hl hf
 refine blk ?_
 obtain ⟨o18, l19, k4⟩ := bnk k2
 refine Bf (f := Du a0 a1) (E := fun (x : (Sl AC) × Int) s => Em [E_ 1 a1, C_ 3 g1 a0, C_ 5 (g1 + 1) a2, (7, .v (Sl.lv x.1)), I_ 8 x.2] s ∧ s.low = low ∧ NoB Gg s) (Q := fun (y17 : (Sl AC)) j s => j = .exit 0 ∧ Em [C_ 3 g1 a0, C_ 5 (g1 + 1) a2, (7, .v (Sl.lv y17))] s ∧ s.low = low ∧ NoB Gg s) l19 ?_ ⟨r, hl, hf⟩ ?_
 ·rintro ⟨x15, x16⟩ s out ⟨r, hl, hf⟩ k5
  dsimp only at r
  simp only [Du] at k5
  refine Rx (fun g22 => [B_ 51 ((decide (x16 < a1.len)) && (decide (x16 < 3)))]) hl hf ?_
  rintro g22 s r hl hf
  refine IJ r.2.2.2.2.2.1 k5 (fun c23 k5 => ?_) fun c23 k5 => ?_
  ·refine blk ?_
   obtain ⟨v24, h25, k6⟩ := bnk k5
   obtain ⟨v26, h27, k7⟩ := bnk k6
   refine Ra hl hf ?_
   rintro g28 s r hl hf
   obtain ⟨v29, h30, k8⟩ := bnk k7
   try clear h25
   obtain ⟨v31, h32, k9⟩ := bnk k8
   obtain ⟨v33, h34, k10⟩ := bnk k9
   obtain ⟨v35, h36, k11⟩ := bnk k10
   have q38 := @hU
   have q39 := OI (sz := 3) (x := x15) (y := (Sl.cold [(AC.mk v31 (Ac v26 (min 40 (W (v26 + v33)))))] : Sl AC)) rfl rfl h36
   refine Ra hl hf ?_
   rintro g37 s r hl hf
   refine Ra hl hf ?_
   rintro g40 s r hl hf
   obtain rfl := oK k11
   exact ⟨rfl, r, hl, hf⟩
  obtain rfl := oK k5
  exact ⟨by decide, ⟨rfl, ⟨r.2.1, r.2.2.1, r.2.2.2.1, trivial⟩, hl, hf⟩⟩
 intro j s hq
 obtain ⟨y17, rfl⟩ : ∃ x, x = o18 := ⟨_, rfl⟩
 try dsimp only at k4 hq
 obtain ⟨rfl, r, hl, hf⟩ := hq
 refine Ra hl hf ?_
 rintro g41 s r hl hf
 refine IJ r.2.2.2.1 k4 (fun c42 k4 => ?_) fun c42 k4 => ?_
 ·obtain ⟨v43, h44, k12⟩ := bnk k4
  try clear h11
  refine Ra hl hf ?_
  rintro g45 s r hl hf
  cases oK k12
  exact ⟨Or.inr rfl, hl, AS (AZ r.1)⟩
 obtain ⟨v46, h47, k13⟩ := bnk k4
 obtain ⟨v48, h49, k14⟩ := bnk k13
 obtain ⟨v50, h51, k15⟩ := bnk k14
 obtain ⟨v52, h53, k16⟩ := bnk k15
 obtain ⟨v54, h55, k17⟩ := bnk k16
 obtain ⟨v56, h57, k18⟩ := bnk k17
 have q59 := DT h47
 have q60 := Cf h47 rfl rfl
 have q61 := DT h51
 have q62 := Cf h51 rfl rfl
 have q63 := DT h55
 have q64 := Cf h55 rfl rfl
 refine Ra hl hf ?_
 rintro g58 s r hl hf
 obtain ⟨v65, h66, k19⟩ := bnk k18
 refine Ra hl hf ?_
 rintro g67 s r hl hf
 obtain ⟨v68, h69, k20⟩ := bnk k19
 refine Ra hl hf ?_
 rintro g70 s r hl hf
 obtain ⟨v71, h72, k21⟩ := bnk k20
 refine Ra hl hf ?_
 rintro g73 s r hl hf
 refine Ra hl hf ?_
 rintro g74 s r hl hf
 refine Rz r.2.2.2.2.2.2.2.2.2.2.2.1 k21 (fun c75 k21 => ?_) fun c75 k21 => ?_
 ·obtain ⟨o84, q, k22⟩ := bnk k21
  refine Rq (fun g86 => [B_ 191 o84]) hl hf q ?_
  rintro g86 s r hl hf
  refine IJ r.2.2.2.2.2.2.1 k22 (fun c87 k22 => ?_) fun c87 k22 => ?_
  ·refine Ra hl hf ?_
   rintro g88 s r hl hf
   cases oK k22
   exact ⟨Or.inr rfl, hl, AS (AZ r.1)⟩
  refine Ra hl hf ?_
  rintro g89 s r hl hf
  refine Ra hl hf ?_
  rintro g90 s r hl hf
  refine blk ?_
  obtain ⟨o95, l96, k23⟩ := bnk k22
  refine Bf (f := Dm a0 y17 v48 v52 v56) (E := fun (x : Bool × Int) s => Em [C_ 3 g1 a0, (7, .v (Sl.lv y17)), I_ 10 (W (v48 - 2)), I_ 11 (W (v52 - 6)), I_ 12 v56, E_ 13 v65.1, B_ 21 x.1, I_ 22 x.2] s ∧ s.low = low ∧ NoB Gg s) (Q := fun (o : ((Bool) ⊕ (Bool))) j s => match o with | .inl w93 => j = .ret ∧ FnJ Oy.1 low (.d (.bool w93)) .ret s | .inr y94 => j = .exit 2 ∧ Em [C_ 3 g1 a0, I_ 11 (W (v52 - 6)), E_ 13 v65.1, B_ 21 y94] s ∧ s.low = low ∧ NoB Gg s) l96 ?_ ⟨r, hl, hf⟩ ?_
  ·rintro ⟨x91, x92⟩ s out ⟨r, hl, hf⟩ k24
   dsimp only at r
   simp only [Dm] at k24
   refine Ra hl hf ?_
   rintro g97 s r hl hf
   refine IJ r.2.2.2.2.2.2.2.2.1 k24 (fun c98 k24 => ?_) fun c98 k24 => ?_
   ·refine blk ?_
    obtain ⟨v99, h100, k25⟩ := bnk k24
    obtain ⟨v101, h102, k26⟩ := bnk k25
    have q104 := @dV
    have q105 := rZ (sz := 3) rfl h100
    refine Ra hl hf ?_
    rintro g103 s r hl hf
    obtain ⟨v106, h107, k27⟩ := bnk k26
    obtain ⟨v108, h109, k28⟩ := bnk k27
    refine Ra hl hf ?_
    rintro g110 s r hl hf
    refine Rx (fun g113 => [B_ 224 ((decide (v108.Notes.Low < 0)) || (decide (40 < v108.Notes.High)))]) hl hf ?_
    rintro g113 s r hl hf
    refine IJ r.2.2.2.2.2.2.2.2.2.1 k28 (fun c114 k28 => ?_) fun c114 k28 => ?_
    ·obtain ⟨v115, h116, k29⟩ := bnk k28
     refine Ra hl hf ?_
     rintro g117 s r hl hf
     refine Rz r.2.2.2.2.2.2.2.1 k29 (fun c118 k29 => ?_) fun c118 k29 => ?_
     ·refine Ra hl hf ?_
      rintro g119 s r hl hf
      refine Ra hl hf ?_
      rintro g120 s r hl hf
      obtain rfl := oK k29
      exact ⟨rfl, r, hl, hf⟩
     refine Ra hl hf ?_
     rintro g121 s r hl hf
     obtain rfl := oK k29
     exact ⟨by decide, ⟨rfl, ⟨Or.inr rfl, hl, AS (AZ r.1)⟩⟩⟩
    obtain ⟨v122, h123, k30⟩ := bnk k28
    refine Ra hl hf ?_
    rintro g124 s r hl hf
    refine Ra hl hf ?_
    rintro g125 s r hl hf
    refine Rz r.2.2.2.2.2.2.2.2.2.1 k30 (fun c126 k30 => ?_) fun c126 k30 => ?_
    ·obtain ⟨o132, q, k31⟩ := bnk k30
     refine Rq (fun g134 => [B_ 21 o132]) hl hf q ?_
     rintro g134 s r hl hf
     refine Ra hl hf ?_
     rintro g135 s r hl hf
     obtain rfl := oK k31
     exact ⟨rfl, r, hl, hf⟩
    refine Ra hl hf ?_
    rintro g136 s r hl hf
    obtain rfl := oK k30
    exact ⟨by decide, ⟨rfl, ⟨Or.inr rfl, hl, AS (AZ r.1)⟩⟩⟩
   obtain rfl := oK k24
   exact ⟨by decide, ⟨rfl, ⟨r.1, r.2.2.2.1, r.2.2.2.2.2.1, r.2.2.2.2.2.2.1, trivial⟩, hl, hf⟩⟩
  intro j s hq
  rcases o95 with w93 | y94
  ·try dsimp only at k23 hq
   obtain ⟨rfl, hq⟩ := hq
   cases oK k23
   exact hq
  try dsimp only at k23 hq
  obtain ⟨rfl, r, hl, hf⟩ := hq
  obtain ⟨o142, q, k33⟩ := bnk k23
  try clear h11
  try clear h44
  refine Rq (fun g144 => [B_ 6 o142]) hl hf q ?_
  rintro g144 s r hl hf
  cases oK k33
  exact ⟨Or.inr rfl, hl, AS (AZ r.1)⟩
 obtain ⟨v145, h146, k34⟩ := bnk k21
 refine Ra hl hf ?_
 rintro g147 s r hl hf
 obtain ⟨o155, q, k35⟩ := bnk k34
 try clear h11
 try clear h44
 refine Rq (fun g157 => [B_ 6 o155]) hl hf q ?_
 rintro g157 s r hl hf
 cases oK k35
 exact ⟨Or.inr rfl, hl, AS (AZ r.1)⟩
def qL := fun a0 a1 a2 => Cq.mk (@Nv a0 a1 a2)
end Go.Lf
