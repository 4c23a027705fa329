/- A part of the proof. -/
import Derived.Test.YtpkbckdhkaggbaaDoorx27
import Derived.Test.YtpkbckdhkaggbaaDoorx29
import Derived.Test.YtpkbckdhkaggbaaDoorx48
import Derived.Test.YtpkbckdhkaggbaaDoorx49
set_option linter.all false
set_option maxHeartbeats 9999999
namespace Go.Lf
open Go
theorem EV {σ : Type} {R : σ → List Fr → Prop} {N : Nat} (hN : ∀ s low, R s low → low.length = N) {yf : (Sl AC) → σ → Option (Bool × σ)} {yj yg : Nat} (hy : GX zL R yj yg (fun (x : (Sl AC)) => [.d (vG.enc x)]) yf) {a1 : AB} {a2 : (Sl AH)} {low : List Fr} {st : σ} (hR : R st low) {r : Unit × σ} (k0 : BW yf a1 a2 st = some r) : ib zL 68 [.yield yj yg, .d (.fptr (vG.cells a1) 0), .d (.fptr [vG.enc a2] 0)] R low (.d (.tup [])) r.2 := by
 unfold BW at k0; replace k0 := kq k0
 refine rz IR Ny ?_
 rintro s r hl hf
 have hlN : low.length = N := hN _ _ hR
 refine Ra hl hf ?_
 rintro g1 s r hl hf
 refine Ra hl hf ?_
 rintro g2 s r hl hf
 have q4 := @M1
 refine Ra hl hf ?_
 rintro g3 s r hl hf
 obtain ⟨⟨v5, t6⟩, h7, k1⟩ := uT k0
 dsimp only at k1
 refine regS (B := IR) (low := low) (Q := R t6) [] hl hf ?_ ?_
 ·have f8 : ∀ (e : uI) (c : Nat) (z0 : uI.get 3 e = some (.box g1 [.yield yj yg])) (z1 : uI.get 4 e = some (.box g2 [.fn 69 [] [.ptr N 3 g1 0, .ptr N 4 g2 0, .d (.fptr (vG.cells a1) 0)]])), (om zL).call 69 [.d .nils, .d (vG.enc a2), .d (vG.enc Bo), .ptr N 3 g1 0, .ptr N 4 g2 0, .d (.fptr (vG.cells a1) 0)] (low ++ [⟨e, none⟩]) c = some (.d (.bool v5), XI zL 69 [.d .nils, .d (vG.enc a2), .d (vG.enc Bo), .ptr N 3 g1 0, .ptr N 4 g2 0, .d (.fptr (vG.cells a1) 0)] (low ++ [⟨e, none⟩]) c ++ [⟨e, none⟩], QZ zL 69 [.d .nils, .d (vG.enc a2), .d (vG.enc Bo), .ptr N 3 g1 0, .ptr N 4 g2 0, .d (.fptr (vG.cells a1) 0)] (low ++ [⟨e, none⟩]) c) ∧ R t6 (XI zL 69 [.d .nils, .d (vG.enc a2), .d (vG.enc Bo), .ptr N 3 g1 0, .ptr N 4 g2 0, .d (.fptr (vG.cells a1) 0)] (low ++ [⟨e, none⟩]) c) ∧ (XI zL 69 [.d .nils, .d (vG.enc a2), .d (vG.enc Bo), .ptr N 3 g1 0, .ptr N 4 g2 0, .d (.fptr (vG.cells a1) 0)] (low ++ [⟨e, none⟩]) c).length = low.length := fun e c z0 z1 => ib.om hN hR (I9 64 (mS R ⟨e, none⟩) (N + 1) (QJ hN _) yj yg (hy.push _) (Sl.nil : (Sl AC)) a2 Bo a1 _ _ _ _ _ _ (Jo hN z0) (Jo hN z1) _ _ ⟨low, rfl, hR⟩ _ h7) c
  simp only [rs, BQ, GR, HU, Cj, hl, uD hf, hlN, r, (Hw).call, (fun e c z0 z1 => (f8 e c z0 z1).1), (fun e c z0 z1 => (f8 e c z0 z1).2.1), (fun e c z0 z1 => (f8 e c z0 z1).2.2), reduceCtorEq, Nat.reduceEqDiff, Nat.reduceAdd]
 rintro s - hR0 hf
 obtain ⟨low, hl⟩ : ∃ l, s.low = l := ⟨_, rfl⟩
 rw [hl] at hR0
 have hR := hR0
 have hlN : low.length = N := hN _ _ hR
 cases oK k1
 exact ⟨Or.inl rfl, (by rw [hl]; exact hR), lV _⟩
theorem N7 {a0 : AB} {a1 : (Sl AH)} {r : ((Sl AC) × Bool)} (k0 : Bv a0 a1 = some r) : Fin zL 52 [vG.enc a0, vG.enc a1] (vG.enc r) := by
 unfold Bv at k0; replace k0 := kq k0
 refine vF EW Pv ?_
 rintro low s ⟨r0, r1, -⟩ hl hf
 refine Ra hl hf ?_
 rintro g1 s ⟨r1, r2, r4, r5, -⟩ hl hf
 obtain ⟨c2, hc2⟩ := HT (LP := zL) (ds := [vG.enc a0, vG.enc a1]) (fun low => Gt (low := low) a0 a1); simp only [List.map_cons, List.map_nil] at hc2
 have q4 := @hc2
 refine Ra hl hf ?_
 rintro g3 s ⟨r4, r5, r9, -⟩ hl hf
 refine uh ?_
 obtain ⟨⟨_, uo⟩, l11, k3⟩ := uT k0
 refine Run.rng (B := EW) (base := low) (n := 68) (a := []) (b := [.d (.fptr (vG.cells a0) 0), .d (.fptr [vG.enc a1] 0)]) (jm := fun (x : (Sl AC)) => match x with | _ => vI.ret) (l := fun (o : (Unit) ⊕ (Sl AC)) => match o with | .inl _ => [(4, .box (g1 + 1) [.d (vG.enc (Sl.nil : (Sl AC)))]), (5, .box (g1 + 1 + 1) [.d (.bool false)]), (9, .v (.d (.fn 68 [] [.fptr (vG.cells a0) 0, .fptr [vG.enc a1] 0])))] | .inr y6 => [(4, .box (g1 + 1) [Sl.lv y6]), (5, .box (g1 + 1 + 1) [.d (.bool true)]), (9, .v (.d (.fn 68 [] [.fptr (vG.cells a0) 0, .fptr [vG.enc a1] 0])))]) (t0 := ()) (st' := uo) (v := .d (.tup [])) hl hf (by simp only [MG, IM, Ej, r9, HJ, Lt, PW, S5, List.map_cons, List.map_nil]) ⟨r4, r5, r9, trivial⟩ ?_ ?_
 ·intro g low1 hc
  refine EV (R := mR EW low g [10] _ _ (fun (x : (Sl AC)) => match x with | _ => vI.ret) (fun (o : (Unit) ⊕ (Sl AC)) => match o with | .inl _ => [(4, .box (g1 + 1) [.d (vG.enc (Sl.nil : (Sl AC)))]), (5, .box (g1 + 1 + 1) [.d (.bool false)]), (9, .v (.d (.fn 68 [] [.fptr (vG.cells a0) 0, .fptr [vG.enc a1] 0])))] | .inr y6 => [(4, .box (g1 + 1) [Sl.lv y6]), (5, .box (g1 + 1 + 1) [.d (.bool true)]), (9, .v (.d (.fn 68 [] [.fptr (vG.cells a0) 0, .fptr [vG.enc a1] 0])))])) (fun st l h => TF st l h) ?_  hc l11
  refine G6 (by decide) (fun _ => rfl) ?_
  rintro a5 _ out k1 e above low0 lw lp s hr ha hr0 hBB hl hf
  obtain ⟨e4, e5, e9, -⟩ := hr0
  have r4 : s.raw 4 = some (.v (.ptr low.length 4 (g1 + 1) 0)) := hr 4 _ rfl e4
  have r5 : s.raw 5 = some (.v (.ptr low.length 5 (g1 + 1 + 1) 0)) := hr 5 _ rfl e5
  have r9 : s.raw 9 = some (.v (.d (.fn 68 [] [.fptr (vG.cells a0) 0, .fptr [vG.enc a1] 0]))) := hr 9 _ rfl e9
  obtain ⟨r10, -⟩ := ha
  unfold C7 at k1
  replace k1 := kq k1
  refine Nx.run <| Ra hl hf ?_
  rintro g7 s ⟨r4, r5, r6, -⟩ hl hf
  refine ⟨rfl, hl, ?_⟩
  intro s2 hraw hl
  replace r4 := (hraw 4).trans r4
  replace r5 := (hraw 5).trans r5
  replace r6 := (hraw 6).trans r6
  replace hf := uY.congr hf hraw
  clear hraw
  obtain ⟨s, hs⟩ : ∃ q, q = s2 := ⟨_, rfl⟩
  rw [← hs] at r4 r5 r6 hl hf
  rw [← hs]
  clear hs s2
  have hB := hBB
  obtain ⟨m4, m5, m9, -⟩ := G1.all hB
  have hlt : low.length < lw.length := by have := G1.len hB; omega
  refine Nx.run <| uh ?_
  obtain ⟨v8, h9, k2⟩ := uT k1
  refine regS (B := EW) (low := lw) (Q := fun q => q = (Bz (Bz lw low.length 4 (.box (g1 + 1) [Sl.lv v8])) low.length 5 (.box (g1 + 1 + 1) [.d (.bool true)]))) [] hl hf ?_ ?_
  ·simp only [rs, HG, FZ, Eg, I1, Ix, hl, uD hf, r4, r5, r6, m4, m5, m9, hlt, (IA (sz := 3) rfl h9), (RR (x := v8)), (Kr (v := .bool true)), reduceCtorEq, Nat.reduceEqDiff, Nat.reduceAdd]
  rintro s - hl hf
  replace hl : s.low = (Bz (Bz lw low.length 4 (.box (g1 + 1) [Sl.lv v8])) low.length 5 (.box (g1 + 1 + 1) [.d (.bool true)])) := hl
  replace hB := G1.set (l' := [(4, .box (g1 + 1) [Sl.lv v8]), (5, .box (g1 + 1 + 1) [.d (.bool false)]), (9, .v (.d (.fn 68 [] [.fptr (vG.cells a0) 0, .fptr [vG.enc a1] 0])))]) hB 4 _ rfl (fun s ⟨q4, q5, q9, _⟩ => ⟨(by rw [Ae, if_pos rfl]), (by rw [Ae, if_neg (by decide)]; exact q5), (by rw [Ae, if_neg (by decide)]; exact q9), trivial⟩)
  replace hB := G1.set (l' := [(4, .box (g1 + 1) [Sl.lv v8]), (5, .box (g1 + 1 + 1) [.d (.bool true)]), (9, .v (.d (.fn 68 [] [.fptr (vG.cells a0) 0, .fptr [vG.enc a1] 0])))]) hB 5 _ rfl (fun s ⟨q4, q5, q9, _⟩ => ⟨(by rw [Ae, if_neg (by decide)]; exact q4), (by rw [Ae, if_pos rfl]), (by rw [Ae, if_neg (by decide)]; exact q9), trivial⟩)
  obtain ⟨lw, hlow⟩ : ∃ q, q = (Bz (Bz lw low.length 4 (.box (g1 + 1) [Sl.lv v8])) low.length 5 (.box (g1 + 1 + 1) [.d (.bool true)])) := ⟨_, rfl⟩
  rw [← hlow] at hl hB
  obtain ⟨m4, m5, m9, -⟩ := G1.all hB
  have hlt : low.length < lw.length := by have := G1.len hB; omega
  obtain rfl := oK k2
  exact ⟨rfl, rfl, (show vI.ret ≠ vI.normal by decide), by rw [hl]; exact Lq hB (fun s ⟨q4, q5, q9, _⟩ => ⟨q4, q5, q9, trivial⟩)⟩
 ·intro s hl hf hq
  rcases uo with _ | y6
  ·try dsimp only at k3 hq
   obtain ⟨r4, r5, r9, -⟩ := hq
   refine jp ?_
   have q13 := @eh
   refine Ra hl hf ?_
   rintro g12 s ⟨r4, r5, -⟩ hl hf
   cases oK k3
   exact ⟨Or.inr rfl, hl, BJ (GK r4) (GK r5)⟩
  ·try dsimp only at k3 hq
   obtain ⟨r4, r5, r9, -⟩ := hq
   refine jp ?_
   cases oK k3
   exact ⟨Or.inr rfl, hl, BJ (Ue r4) (GK r5)⟩
def F5 := fun a0 a1 => Cq.mk (@N7 a0 a1)
theorem Yg {a0 : BenchBook} {a1 : Int} {r : (Int × Int)} (k0 : H3 a0 a1 = some r) : Fin zL 23 [vG.enc a0, .int a1] (vG.enc r) := by
 unfold H3 at k0; replace k0 := kq k0
 refine vF LO RQ ?_
 rintro low s r hl hf
 have q28 := @Df
 have q29 := @F5
 have q30 := @DZ
 have q31 := @IT
 refine Ra hl hf ?_
 rintro g1 s r hl hf
 obtain ⟨v2, h3, k1⟩ := uT k0
 refine Ra hl hf ?_
 rintro g4 s r hl hf
 refine Ra hl hf ?_
 rintro g5 s r hl hf
 refine NF r.2.2.2.2.1 k1 (fun c6 k1 => ?_) fun c6 k1 => ?_
 ·obtain ⟨v7, h8, k2⟩ := uT k1
  refine Ra hl hf ?_
  rintro g9 s r hl hf
  refine uh ?_
  obtain ⟨uW, l13, k3⟩ := uT k2
  refine A9 (f := Eo a1 v2 v7) (E := fun (x : Int) s => DW [I_ 1 a1, C_ 6 (g4 + 1 + 1 + 1 + 1 + 1 + 1 + 1 + 1) v2.1, I_ 28 v7.Parts.len, I_ 29 x] s ∧ s.low = low ∧ uY LO s) (Q := fun (o : ((Int × Int) ⊕ (Unit))) j s => match o with | .inl w11 => j = .ret ∧ ul RQ.1 low (.d (vG.enc w11)) .ret s | .inr _ => j = .exit 0 ∧ DW [C_ 6 (g4 + 1 + 1 + 1 + 1 + 1 + 1 + 1 + 1) v2.1] s ∧ s.low = low ∧ uY LO s) l13 ?_ ⟨r, hl, hf⟩ ?_
  ·rintro x10 s out ⟨r, hl, hf⟩ k4
   unfold Eo at k4
   refine Ra hl hf ?_
   rintro g14 s r hl hf
   refine E2 r.2.2.2.2.1 k4 (fun c15 k4 => ?_) fun c15 k4 => ?_
   ·refine uh <| Ra hl hf ?_
    rintro g16 s r hl hf
    obtain ⟨v17, h18, k5⟩ := uT k4
    obtain ⟨v19, h20, k6⟩ := uT k5
    refine Ra hl hf ?_
    rintro g21 s r hl hf
    refine Ra hl hf ?_
    rintro g22 s r hl hf
    refine NF r.2.2.2.2.2.1 k6 (fun uP k6 => ?_) fun uP k6 => ?_
    ·refine Ra hl hf ?_
     rintro g24 s r hl hf
     obtain rfl := oK k6
     exact ⟨rfl, r, hl, hf⟩
    refine Ra hl hf ?_
    rintro g25 s r hl hf
    obtain rfl := oK k6
    exact ⟨by decide, ⟨rfl, ⟨Or.inr rfl, hl, BJ (AL r.1) (AL r.2.1)⟩⟩⟩
   obtain rfl := oK k4
   exact ⟨by decide, ⟨rfl, ⟨r.2.1, trivial⟩, hl, hf⟩⟩
  intro j s hq
  rcases uW with w11 | _
  ·try dsimp only at k3 hq
   obtain ⟨rfl, hq⟩ := hq
   cases oK k3
   exact hq
  try dsimp only at k3 hq
  obtain ⟨rfl, r, hl, hf⟩ := hq
  refine Ra hl hf ?_
  rintro g26 s r hl hf
  cases oK k3
  exact ⟨Or.inr rfl, hl, BJ (AL r.1) (AL r.2.1)⟩
 refine Ra hl hf ?_
 rintro g27 s r hl hf
 cases oK k1
 exact ⟨Or.inr rfl, hl, BJ (AL r.1) (AL r.2.1)⟩
def bL := fun a0 a1 => Cq.mk (@Yg a0 a1)
theorem Ye (a0 : Int) (a1 : Int) (a2 : Int) : Fin zL 32 [.int a0, .int a1, .int a2] (vG.enc (Bq a0 a1 a2)) := by
 refine vF Z4 bD ?_
 rintro low s r hl hf
 have q2 := @eo
 refine Ra hl hf ?_
 rintro g1 s r hl hf
 have q4 := @Hf
 refine Ra hl hf ?_
 rintro g3 s r hl hf
 exact ⟨Or.inr rfl, hl, AO (CU r.1 rfl)⟩
def RE := fun a0 a1 a2 => (Ye a0 a1 a2).call
theorem W5 : Fin zL 26 [] (vG.enc (FT)) := by
 refine vF Yd Yz ?_
 rintro low s - hl hf
 have q3 := @RE
 refine Ra hl hf ?_
 rintro g1 s - hl hf
 refine Ra hl hf ?_
 rintro g2 s r hl hf
 exact ⟨Or.inr rfl, hl, AO (Zm r.1)⟩
def ZG := W5.call
theorem U5 {a0 : (Sl AC)} {a1 : (Sl AC)} {r : Bool} (k0 : HI a0 a1 = some r) : Fin zL 55 [vG.enc a0, vG.enc a1] (.bool r) := by
 unfold HI at k0; replace k0 := kq k0
 refine vF JD Nc ?_
 rintro low s r hl hf
 refine Ra hl hf ?_
 rintro g1 s r hl hf
 refine Ra hl hf ?_
 rintro g2 s r hl hf
 refine NF r.2.2.1 k0 (fun c3 k0 => ?_) fun c3 k0 => ?_
 ·refine Ra hl hf ?_
  rintro g4 s r hl hf
  refine uh ?_
  obtain ⟨o7, l8, k1⟩ := uT k0
  refine A9 (f := BG a0 a1) (E := fun (x : Int) s => DW [E_ 0 a0, E_ 1 a1, I_ 12 a0.len, I_ 13 x] s ∧ s.low = low ∧ uY JD s) (Q := fun (o : ((Bool) ⊕ (Unit))) j s => match o with | .inl w6 => j = .ret ∧ ul Nc.1 low (.d (.bool w6)) .ret s | .inr _ => j = .exit 0 ∧ DW [] s ∧ s.low = low ∧ uY JD s) l8 ?_ ⟨r, hl, hf⟩ ?_
  ·rintro x5 s out ⟨r, hl, hf⟩ k2
   unfold BG at k2
   refine Ra hl hf ?_
   rintro g9 s r hl hf
   refine E2 r.2.2.2.2.1 k2 (fun c10 k2 => ?_) fun c10 k2 => ?_
   ·refine uh <| Ra hl hf ?_
    rintro g11 s r hl hf
    obtain ⟨v12, h13, k3⟩ := uT k2
    obtain ⟨v14, h15, k4⟩ := uT k3
    refine Ra hl hf ?_
    rintro g16 s r hl hf
    refine NF r.2.2.2.2.1 k4 (fun c17 k4 => ?_) fun c17 k4 => ?_
    ·refine Ra hl hf ?_
     rintro g18 s r hl hf
     obtain rfl := oK k4
     exact ⟨rfl, r, hl, hf⟩
    refine Ra hl hf ?_
    rintro g19 s r hl hf
    obtain rfl := oK k4
    exact ⟨by decide, ⟨rfl, ⟨Or.inr rfl, hl, AO (AL r.1)⟩⟩⟩
   obtain rfl := oK k2
   exact ⟨by decide, ⟨rfl, trivial, hl, hf⟩⟩
  intro j s hq
  rcases o7 with w6 | _
  ·try dsimp only at k1 hq
   obtain ⟨rfl, hq⟩ := hq
   cases oK k1
   exact hq
  try dsimp only at k1 hq
  obtain ⟨rfl, -, hl, hf⟩ := hq
  refine Ra hl hf ?_
  rintro g20 s r hl hf
  cases oK k1
  exact ⟨Or.inr rfl, hl, AO (AL r.1)⟩
 refine Ra hl hf ?_
 rintro g21 s r hl hf
 cases oK k0
 exact ⟨Or.inr rfl, hl, AO (AL r.1)⟩
def Wm := fun a0 a1 => Cq.mk (@U5 a0 a1)
theorem aw {a0 : BenchBook} {a1 : (Sl Int)} {a2 : (Sl AC)} {r : (Bool × Int)} (k0 : MN a0 a1 a2 = some r) : Fin zL 25 [vG.enc a0, vG.enc a1, vG.enc a2] (vG.enc r) := by
 unfold MN at k0; replace k0 := kq k0
 refine vF Gk dl ?_
 rintro low s ⟨r0, r1, r2, -⟩ hl hf
 have q48 := @Df
 have q49 := @DZ
 have q50 := @IT
 have q51 := @Wm
 refine Ra hl hf ?_
 rintro g1 s ⟨r1, r3, r5, r6, r7, -⟩ hl hf
 refine Ra hl hf ?_
 rintro g2 s ⟨r1, r3, r5, r6, r7, r8, -⟩ hl hf
 refine Ra hl hf ?_
 rintro g3 s ⟨r1, r3, r5, r6, r7, r8, r14, r15, r16, -⟩ hl hf
 refine uh ?_
 obtain ⟨o7, l8, k1⟩ := uT k0
 refine A9 (f := D4 a0 a1) (E := fun (x : Bool × Int) s => Br [E_ 1 a1, C_ 3 g1 a0, (5, .box (g1 + 1) [.d (vG.enc a2)]), (6, .box (g1 + 1 + 1) [.d (.bool false)]), N_ 7 (g1 + 1 + 1 + 1) 0, B_ 8 x.1, E_ 14 a1, I_ 15 a1.len, I_ 16 x.2] s ∧ s.low = low ∧ uY Gk s) (Q := fun (y6 : Bool) j s => j = .exit 0 ∧ Br [E_ 1 a1, C_ 3 g1 a0, (5, .box (g1 + 1) [.d (vG.enc a2)]), (6, .box (g1 + 1 + 1) [.d (.bool false)]), N_ 7 (g1 + 1 + 1 + 1) 0, B_ 8 y6] s ∧ s.low = low ∧ uY Gk s) l8 ?_ ⟨⟨r1, r3, r5, r6, r7, r8, r14, r15, r16, trivial⟩, hl, hf⟩ ?_
 ·rintro ⟨x4, x5⟩ s out ⟨⟨r1, r3, r5, r6, r7, r8, r14, r15, r16, -⟩, hl, hf⟩ k2
  dsimp only at r8 r16
  simp only [D4] at k2
  refine Ra hl hf ?_
  rintro g9 s ⟨r1, r3, r5, r6, r7, r8, r14, r15, r16, r17, -⟩ hl hf
  refine E2 r17 k2 (fun c10 k2 => ?_) fun c10 k2 => ?_
  ·refine uh ?_
   obtain ⟨v11, h12, k3⟩ := uT k2
   refine Ra hl hf ?_
   rintro g13 s ⟨r1, r3, r5, r6, r7, r8, r9, r10, r14, r15, r16, -⟩ hl hf
   obtain ⟨o19, q, k4⟩ := uT k3
   refine Rq (fun g21 => [B_ 8 o19]) hl hf q ?_
   rintro g21 s ⟨r1, r3, r5, r6, r7, r8, r14, r15, r16, -⟩ hl hf
   refine Ra hl hf ?_
   rintro g22 s ⟨r1, r3, r5, r6, r7, r8, r14, r15, r16, -⟩ hl hf
   obtain rfl := oK k4
   exact ⟨rfl, ⟨r1, r3, r5, r6, r7, r8, r14, r15, r16, trivial⟩, hl, hf⟩
  obtain rfl := oK k2
  exact ⟨by decide, ⟨rfl, ⟨r1, r3, r5, r6, r7, r8, trivial⟩, hl, hf⟩⟩
 intro j s hq
 obtain ⟨y6, rfl⟩ : ∃ x, x = o7 := ⟨_, rfl⟩
 try dsimp only at k1 hq
 obtain ⟨rfl, ⟨r1, r3, r5, r6, r7, r8, -⟩, hl, hf⟩ := hq
 obtain ⟨v23, h24, k5⟩ := uT k1
 refine Ra hl hf ?_
 rintro g25 s ⟨r1, r5, r6, r7, r11, r12, -⟩ hl hf
 refine Ra hl hf ?_
 rintro g26 s ⟨r1, r5, r6, r7, r11, r12, r48, -⟩ hl hf
 refine NF r48 k5 (fun c27 k5 => ?_) fun c27 k5 => ?_
 ·obtain ⟨v28, h29, k6⟩ := uT k5
  have q31 := Fin.call (LP := zL) (ds := [vG.enc v23.1, vG.enc v28]) (fun low => Gt (low := low) v23.1 v28)
  refine Ra hl hf ?_
  rintro g30 s ⟨r5, r6, r7, r54, -⟩ hl hf
  refine uh ?_
  obtain ⟨⟨_, o44⟩, l45, k9⟩ := uT k6
  refine Run.rng (B := Gk) (base := low) (n := 68) (a := []) (b := [.d (.fptr (vG.cells v23.1) 0), .d (.fptr [vG.enc v28] 0)]) (jm := fun (x : Unit) => match x with | _ => vI.ret) (l := fun (o : (Unit) ⊕ (Unit)) => match o with | .inl _ => [(5, .box (g1 + 1) [.d (vG.enc a2)]), (6, .box (g1 + 1 + 1) [.d (.bool false)]), (7, .box (g1 + 1 + 1 + 1) [.d (.int 0)]), (54, .v (.d (.fn 68 [] [.fptr (vG.cells v23.1) 0, .fptr [vG.enc v28] 0])))] | .inr _ => [(5, .box (g1 + 1) [.d (vG.enc a2)]), (6, .box (g1 + 1 + 1) [.d (.bool true)]), (7, .box (g1 + 1 + 1 + 1) [.d (.int 0)]), (54, .v (.d (.fn 68 [] [.fptr (vG.cells v23.1) 0, .fptr [vG.enc v28] 0])))]) (t0 := ()) (st' := o44) (v := .d (.tup [])) hl hf (by simp only [MG, IM, Ej, r54, HJ, Lt, PW, S5, List.map_cons, List.map_nil]) ⟨r5, r6, r7, r54, trivial⟩ ?_ ?_
  ·intro g low1 hc
   refine EV (R := mR Gk low g [55] _ _ (fun (x : Unit) => match x with | _ => vI.ret) (fun (o : (Unit) ⊕ (Unit)) => match o with | .inl _ => [(5, .box (g1 + 1) [.d (vG.enc a2)]), (6, .box (g1 + 1 + 1) [.d (.bool false)]), (7, .box (g1 + 1 + 1 + 1) [.d (.int 0)]), (54, .v (.d (.fn 68 [] [.fptr (vG.cells v23.1) 0, .fptr [vG.enc v28] 0])))] | .inr _ => [(5, .box (g1 + 1) [.d (vG.enc a2)]), (6, .box (g1 + 1 + 1) [.d (.bool true)]), (7, .box (g1 + 1 + 1 + 1) [.d (.int 0)]), (54, .v (.d (.fn 68 [] [.fptr (vG.cells v23.1) 0, .fptr [vG.enc v28] 0])))])) (fun st l h => TF st l h) ?_  hc l45
   refine G6 (by decide) (fun _ => rfl) ?_
   rintro a32 _ out k7 e above low0 lw lp s hr ha hr0 hBB hl hf
   obtain ⟨e5, e6, e7, e54, -⟩ := hr0
   have r5 : s.raw 5 = some (.v (.ptr low.length 5 (g1 + 1) 0)) := hr 5 _ rfl e5
   have r6 : s.raw 6 = some (.v (.ptr low.length 6 (g1 + 1 + 1) 0)) := hr 6 _ rfl e6
   have r7 : s.raw 7 = some (.v (.ptr low.length 7 (g1 + 1 + 1 + 1) 0)) := hr 7 _ rfl e7
   have r54 : s.raw 54 = some (.v (.d (.fn 68 [] [.fptr (vG.cells v23.1) 0, .fptr [vG.enc v28] 0]))) := hr 54 _ rfl e54
   obtain ⟨r55, -⟩ := ha
   unfold Iu at k7
   replace k7 := kq k7
   refine Nx.run <| Ra hl hf ?_
   rintro g33 s ⟨r5, r6, r7, r13, -⟩ hl hf
   refine ⟨rfl, hl, ?_⟩
   intro s2 hraw hl
   replace r5 := (hraw 5).trans r5
   replace r6 := (hraw 6).trans r6
   replace r7 := (hraw 7).trans r7
   replace r13 := (hraw 13).trans r13
   replace hf := uY.congr hf hraw
   clear hraw
   obtain ⟨s, hs⟩ : ∃ q, q = s2 := ⟨_, rfl⟩
   rw [← hs] at r5 r6 r7 r13 hl hf
   rw [← hs]
   clear hs s2
   have hB := hBB
   obtain ⟨m5, m6, m7, m54, -⟩ := G1.all hB
   have hlt : low.length < lw.length := by have := G1.len hB; omega
   refine Nx.run <| uh ?_
   obtain ⟨v34, h35, k8⟩ := uT k7
   have q37 := @HG
   have q38 := @FZ
   have q39 := @Eg
   have q40 := @I1
   have q41 := @Ix
   have q42 := @Hz
   refine Ra hl hf ?_
   rintro g36 s ⟨r6, r7, u0, -⟩ hl hf
   refine E2 u0 k8 (fun c43 k8 => ?_) fun c43 k8 => ?_
   ·refine regS (B := Gk) (low := lw) (Q := fun q => q = (Bz (Bz lw low.length 6 (.box (g1 + 1 + 1) [.d (.bool true)])) low.length 7 (.box (g1 + 1 + 1 + 1) [.d (.int 0)]))) [] hl hf ?_ ?_
    ·simp only [rs, HG, FZ, Eg, I1, Ix, hl, uD hf, r6, r7, u0, m5, m6, m7, m54, hlt, (Kr (v := .bool true)), (Kr (v := .int 0)), reduceCtorEq, Nat.reduceEqDiff, Nat.reduceAdd]
    rintro s - hl hf
    replace hl : s.low = (Bz (Bz lw low.length 6 (.box (g1 + 1 + 1) [.d (.bool true)])) low.length 7 (.box (g1 + 1 + 1 + 1) [.d (.int 0)])) := hl
    replace hB := G1.set (l' := [(5, .box (g1 + 1) [.d (vG.enc a2)]), (6, .box (g1 + 1 + 1) [.d (.bool true)]), (7, .box (g1 + 1 + 1 + 1) [.d (.int 0)]), (54, .v (.d (.fn 68 [] [.fptr (vG.cells v23.1) 0, .fptr [vG.enc v28] 0])))]) hB 6 _ rfl (fun s ⟨q5, q6, q7, q54, _⟩ => ⟨(by rw [Ae, if_neg (by decide)]; exact q5), (by rw [Ae, if_pos rfl]), (by rw [Ae, if_neg (by decide)]; exact q7), (by rw [Ae, if_neg (by decide)]; exact q54), trivial⟩)
    replace hB := G1.set (l' := [(5, .box (g1 + 1) [.d (vG.enc a2)]), (6, .box (g1 + 1 + 1) [.d (.bool true)]), (7, .box (g1 + 1 + 1 + 1) [.d (.int 0)]), (54, .v (.d (.fn 68 [] [.fptr (vG.cells v23.1) 0, .fptr [vG.enc v28] 0])))]) hB 7 _ rfl (fun s ⟨q5, q6, q7, q54, _⟩ => ⟨(by rw [Ae, if_neg (by decide)]; exact q5), (by rw [Ae, if_neg (by decide)]; exact q6), (by rw [Ae, if_pos rfl]), (by rw [Ae, if_neg (by decide)]; exact q54), trivial⟩)
    obtain ⟨lw, hlow⟩ : ∃ q, q = (Bz (Bz lw low.length 6 (.box (g1 + 1 + 1) [.d (.bool true)])) low.length 7 (.box (g1 + 1 + 1 + 1) [.d (.int 0)])) := ⟨_, rfl⟩
    rw [← hlow] at hl hB
    obtain ⟨m5, m6, m7, m54, -⟩ := G1.all hB
    have hlt : low.length < lw.length := by have := G1.len hB; omega
    obtain rfl := oK k8
    exact ⟨rfl, rfl, (show vI.ret ≠ vI.normal by decide), by rw [hl]; exact Lq hB (fun s ⟨q5, q6, q7, q54, _⟩ => ⟨q5, q6, q7, q54, trivial⟩)⟩
   obtain rfl := oK k8
   exact ⟨rfl, rfl, by rw [hl]; exact Lq hB (fun s ⟨q5, q6, q7, q54, _⟩ => ⟨q5, q6, q7, q54, trivial⟩)⟩
  ·intro s hl hf hq
   rcases o44 with _ | _
   ·try dsimp only at k9 hq
    obtain ⟨r5, r6, r7, r54, -⟩ := hq
    refine jp <| Ra hl hf ?_
    rintro g46 s ⟨r6, r7, -⟩ hl hf
    cases oK k9
    exact ⟨Or.inr rfl, hl, BJ (GK r6) (GK r7)⟩
   ·try dsimp only at k9 hq
    obtain ⟨r5, r6, r7, r54, -⟩ := hq
    refine jp ?_
    cases oK k9
    exact ⟨Or.inr rfl, hl, BJ (GK r6) (GK r7)⟩
 refine Ra hl hf ?_
 rintro g47 s ⟨r6, r7, -⟩ hl hf
 cases oK k5
 exact ⟨Or.inr rfl, hl, BJ (GK r6) (GK r7)⟩
def ea := fun a0 a1 a2 => Cq.mk (@aw a0 a1 a2)
theorem ZP : Fin zL 28 [] (vG.enc (Gm)) := by
 refine vF dE bU ?_
 rintro low s - hl hf
 have q2 := @Kx
 refine Ra hl hf ?_
 rintro g1 s r hl hf
 have q4 := Fin.call (LP := zL) (ds := [.int 2, .int 20, .nils]) (Hq 2 20 (Sl.nil : (Sl AE)))
 refine Ra hl hf ?_
 rintro g3 s r hl hf
 exact ⟨Or.inr rfl, hl, AO (CU r.1 rfl)⟩
def dA := ZP.call
theorem EX {a0 : AB} {a1 : (Sl Int)} {r : (Sl Int)} (k0 : CM a0 a1 = some r) : Fin zL 56 [vG.enc a0, vG.enc a1] (vG.enc r) := by
 unfold CM at k0; replace k0 := kq k0
 refine vF Gx Qq ?_
 rintro low s r hl hf
 have q23 := @Jj
 refine Ra hl hf ?_
 rintro g1 s r hl hf
 refine Ra hl hf ?_
 rintro g2 s r hl hf
 refine Ra hl hf ?_
 rintro g3 s r hl hf
 refine uh ?_
 obtain ⟨o7, l8, k1⟩ := uT k0
 refine A9 (f := CS a0 a1) (E := fun (x : (Sl Int) × Int) s => DW [E_ 1 a1, (5, .v (Sl.lv x.1)), I_ 10 a0.BenchBook.Pieces.len, I_ 11 x.2] s ∧ s.low = low ∧ uY Gx s) (Q := fun (y6 : (Sl Int)) j s => j = .exit 0 ∧ DW [(5, .v (Sl.lv y6))] s ∧ s.low = low ∧ uY Gx s) l8 ?_ ⟨r, hl, hf⟩ ?_
 ·rintro ⟨x4, x5⟩ s out ⟨r, hl, hf⟩ k2
  dsimp only at r
  simp only [CS] at k2
  refine Ra hl hf ?_
  rintro g9 s r hl hf
  refine E2 r.2.2.2.2.1 k2 (fun c10 k2 => ?_) fun c10 k2 => ?_
  ·refine uh <| Ra hl hf ?_
   rintro g11 s r hl hf
   obtain ⟨v12, h13, k3⟩ := uT k2
   refine Ra hl hf ?_
   rintro g14 s r hl hf
   refine NF r.2.2.2.2.2.1 k3 (fun c15 k3 => ?_) fun c15 k3 => ?_
   ·refine Ra hl hf ?_
    rintro g16 s r hl hf
    obtain rfl := oK k3
    exact ⟨rfl, r, hl, hf⟩
   obtain ⟨v17, h18, k4⟩ := uT k3
   have q20 := GQ (sz := 1) (x := x4) (y := (Sl.cold [x5] : Sl Int)) rfl rfl h18
   refine Ra hl hf ?_
   rintro g19 s r hl hf
   refine Ra hl hf ?_
   rintro g21 s r hl hf
   obtain rfl := oK k4
   exact ⟨rfl, r, hl, hf⟩
  obtain rfl := oK k2
  exact ⟨by decide, ⟨rfl, ⟨r.2.1, trivial⟩, hl, hf⟩⟩
 intro j s hq
 obtain ⟨y6, rfl⟩ : ∃ x, x = o7 := ⟨_, rfl⟩
 try dsimp only at k1 hq
 obtain ⟨rfl, r, hl, hf⟩ := hq
 refine Ra hl hf ?_
 rintro g22 s r hl hf
 cases oK k1
 exact ⟨Or.inr rfl, hl, AO (Zm r.1)⟩
def Qf := fun a0 a1 => Cq.mk (@EX a0 a1)
theorem Yk {a0 : BenchBook} {r : (Int × Int)} (k0 : JR a0 = some r) : Fin zL 27 [vG.enc a0] (vG.enc r) := by
 unfold JR at k0; replace k0 := kq k0
 refine vF Il aW ?_
 rintro low s ⟨r0, -⟩ hl hf
 have q22 := @Df
 have q23 := @DZ
 refine Ra hl hf ?_
 rintro g1 s ⟨r1, r2, r3, -⟩ hl hf
 obtain ⟨v2, h3, k1⟩ := uT k0
 refine Ra hl hf ?_
 rintro g4 s ⟨r2, r3, r4, r5, -⟩ hl hf
 refine Ra hl hf ?_
 rintro g5 s ⟨r2, r3, r4, r5, r13, -⟩ hl hf
 refine NF r13 k1 (fun c6 k1 => ?_) fun c6 k1 => ?_
 ·refine Ra hl hf ?_
  rintro g7 s ⟨r2, r3, r4, r6, -⟩ hl hf
  obtain ⟨v8, h9, k2⟩ := uT k1
  obtain ⟨v10, h11, k3⟩ := uT k2
  have q13 := Fin.call (LP := zL) (ds := [vG.enc v2.1, .nils]) (EX h9)
  have q14 := Fin.call (LP := zL) (ds := [vG.enc v2.1, vG.enc v10]) (fun low => Gt (low := low) v2.1 v10)
  refine Ra hl hf ?_
  rintro g12 s ⟨r2, r3, r6, r20, -⟩ hl hf
  refine uh ?_
  obtain ⟨⟨_, o17⟩, l18, k5⟩ := uT k3
  refine Run.rng (B := Il) (base := low) (n := 68) (a := []) (b := [.d (.fptr (vG.cells v2.1) 0), .d (.fptr [vG.enc v10] 0)]) (jm := fun (_ : Unit) => vI.ret) (l := fun (o : (Int) ⊕ (Unit)) => match o with | .inl x16 => [(2, .v (.d (.int 0))), (3, .v (.d (.int 0))), (6, .box g7 [.d (.int x16)]), (20, .v (.d (.fn 68 [] [.fptr (vG.cells v2.1) 0, .fptr [vG.enc v10] 0])))] | .inr _ => []) (t0 := 0) (st' := o17) (v := .d (.tup [])) hl hf (by simp only [MG, IM, Ej, r20, HJ, Lt, PW, S5, List.map_cons, List.map_nil]) ⟨r2, r3, r6, r20, trivial⟩ ?_ ?_
  ·intro g low1 hc
   refine EV (R := mR Il low g [21] _ _ (fun (_ : Unit) => vI.ret) (fun (o : (Int) ⊕ (Unit)) => match o with | .inl x16 => [(2, .v (.d (.int 0))), (3, .v (.d (.int 0))), (6, .box g7 [.d (.int x16)]), (20, .v (.d (.fn 68 [] [.fptr (vG.cells v2.1) 0, .fptr [vG.enc v10] 0])))] | .inr _ => [])) (fun st l h => TF st l h) ?_  hc l18
   refine G6 (by decide) (fun _ => rfl) ?_
   rintro a15 x16 out k4 e above low0 lw lp s hr ha hr0 hBB hl hf
   obtain ⟨e2, e3, e6, e20, -⟩ := hr0
   have r2 : s.raw 2 = some (.v (.d (.int 0))) := hr 2 _ rfl e2
   have r3 : s.raw 3 = some (.v (.d (.int 0))) := hr 3 _ rfl e3
   have r6 : s.raw 6 = some (.v (.ptr low.length 6 g7 0)) := hr 6 _ rfl e6
   have r20 : s.raw 20 = some (.v (.d (.fn 68 [] [.fptr (vG.cells v2.1) 0, .fptr [vG.enc v10] 0]))) := hr 20 _ rfl e20
   obtain ⟨r21, -⟩ := ha
   unfold Ft at k4
   replace k4 := kq k4
   refine Nx.run <| ⟨rfl, hl, ?_⟩
   intro s2 hraw hl
   replace r2 := (hraw 2).trans r2
   replace r3 := (hraw 3).trans r3
   replace r6 := (hraw 6).trans r6
   replace r20 := (hraw 20).trans r20
   replace r21 := (hraw 21).trans r21
   replace hf := uY.congr hf hraw
   clear hraw
   obtain ⟨s, hs⟩ : ∃ q, q = s2 := ⟨_, rfl⟩
   rw [← hs] at r2 r3 r6 r20 r21 hl hf
   rw [← hs]
   clear hs s2
   have hB := hBB
   obtain ⟨m2, m3, m6, m20, -⟩ := G1.all hB
   have hlt : low.length < lw.length := by have := G1.len hB; omega
   refine Nx.run <| uh <| regS (B := Il) (low := lw) (Q := fun q => q = (Bz lw low.length 6 (.box g7 [.d (.int (W (x16 + 1)))]))) [] hl hf ?_ ?_
   ·simp only [rs, HG, FZ, Eg, I1, Ix, Hz, hl, uD hf, r2, r3, r6, r20, r21, m2, m3, m6, m20, hlt, (Kr (v := .int (W (x16 + 1)))), reduceCtorEq, Nat.reduceEqDiff, Nat.reduceAdd]
   rintro s - hl hf
   replace hl : s.low = (Bz lw low.length 6 (.box g7 [.d (.int (W (x16 + 1)))])) := hl
   replace hB := G1.set (l' := [(2, .v (.d (.int 0))), (3, .v (.d (.int 0))), (6, .box g7 [.d (.int (W (x16 + 1)))]), (20, .v (.d (.fn 68 [] [.fptr (vG.cells v2.1) 0, .fptr [vG.enc v10] 0])))]) hB 6 _ rfl (fun s ⟨q2, q3, q6, q20, _⟩ => ⟨(by rw [Ae, if_neg (by decide)]; exact q2), (by rw [Ae, if_neg (by decide)]; exact q3), (by rw [Ae, if_pos rfl]), (by rw [Ae, if_neg (by decide)]; exact q20), trivial⟩)
   obtain ⟨lw, hlow⟩ : ∃ q, q = (Bz lw low.length 6 (.box g7 [.d (.int (W (x16 + 1)))])) := ⟨_, rfl⟩
   rw [← hlow] at hl hB
   obtain ⟨m2, m3, m6, m20, -⟩ := G1.all hB
   have hlt : low.length < lw.length := by have := G1.len hB; omega
   obtain rfl := oK k4
   exact ⟨rfl, rfl, by rw [hl]; exact Lq hB (fun s ⟨q2, q3, q6, q20, _⟩ => ⟨q2, q3, q6, q20, trivial⟩)⟩
  ·intro s hl hf hq
   rcases o17 with y19 | _
   ·try dsimp only at k5 hq
    obtain ⟨r2, r3, r6, r20, -⟩ := hq
    refine jp <| Ra hl hf ?_
    rintro g20 s ⟨r2, r3, -⟩ hl hf
    cases oK k5
    exact ⟨Or.inr rfl, hl, BJ (AL r2) (AL r3)⟩
   ·cases k5
 refine Ra hl hf ?_
 rintro g21 s ⟨r2, r3, -⟩ hl hf
 cases oK k1
 exact ⟨Or.inr rfl, hl, BJ (AL r2) (AL r3)⟩
def aF := fun a0 => Cq.mk (@Yk a0)
theorem JE (n : Nat) : ∀ (low : List Fr) (a0 : (Sl Int)) (a1 : Int) (a2x : AB) (pja2 : Nat) (pta2 : Nat) (pga2 : Nat) (pja3 : Nat) (pta3 : Nat) (pga3 : Nat), HD low pja2 pta2 = some (.box pga2 ((vG.cells a2x).map LV.d)) → HD low pja3 pta3 = some (.box pga3 [.fn 60 [] [.ptr pja2 pta2 pga2 0, .ptr pja3 pta3 pga3 0]]) → ∀ r : (T3 (Sl Int) (Sl AC) Bool), Ag n a0 a1 a2x = some r → JO zL 60 [.d (vG.enc a0), .d (.int a1), .ptr pja2 pta2 pga2 0, .ptr pja3 pta3 pga3 0] low (.d (vG.enc r)) := by
 induction n with
 | zero => intro low a0 a1 a2x pja2 pta2 pga2 pja3 pta3 pga3 ba2 ba3 r k0; simp [Ag] at k0
 | succ n ih =>
  intro low a0 a1 a2x pja2 pta2 pga2 pja3 pta3 pga3 ba2 ba3 r k0
  simp only [Ag] at k0; replace k0 := kq k0
  refine en DJ GY ?_
  rintro s r hl hf
  have q52 := @Qf
  have q53 := @F5
  have q54 := @DZ
  refine Ra hl hf ?_
  rintro g1 s r hl hf
  refine Ra hl hf ?_
  rintro g2 s r hl hf
  refine Ra hl hf ?_
  rintro g3 s r hl hf
  refine E2 r.2.2.2.2.2.1 k0 (fun c4 k0 => ?_) fun c4 k0 => ?_
  ·obtain ⟨v5, h6, k1⟩ := uT k0
   obtain ⟨v7, h8, k2⟩ := uT k1
   obtain ⟨v9, h10, k3⟩ := uT k2
   have q12 := EE ba2
   have q13 := EE ba2
   have q14 := EE ba2
   refine Ra hl hf ?_
   rintro g11 s r hl hf
   refine Ra hl hf ?_
   rintro g15 s r hl hf
   cases oK k3
   exact ⟨Or.inr rfl, hl, U0 (AL r.1) (AL r.2.1) (AL r.2.2.1)⟩
  refine Ra hl hf ?_
  rintro g16 s r hl hf
  refine Ra hl hf ?_
  rintro g17 s r hl hf
  obtain ⟨o19, k4, k5⟩ := uT k0
  replace k4 := kq k4
  refine tY (Q := (fun (y18 : Int) j s => j = .normal ∧ DW [E_ 0 a0, I_ 1 a1, (2, .v (.ptr pja2 pta2 pga2 0)), (3, .v (.ptr pja3 pta3 pga3 0)), I_ 9 a0.len, I_ 12 y18] s ∧ s.low = low ∧ uY DJ s) o19) ?_ ?_
  ·refine E2 r.2.2.2.2.2.2.1 k4 (fun c20 k4 => ?_) fun c20 k4 => ?_
   ·obtain ⟨v21, h22, k6⟩ := uT k4
    refine Ra hl hf ?_
    rintro g23 s r hl hf
    obtain rfl := oK k6
    exact ⟨rfl, r, hl, hf⟩
   obtain rfl := oK k4
   exact ⟨rfl, ⟨r.1, r.2.1, r.2.2.1, r.2.2.2.1, r.2.2.2.2.1, r.2.2.2.2.2.1, trivial⟩, hl, hf⟩
  intro j s hq
  obtain ⟨y18, rfl⟩ : ∃ x, x = o19 := ⟨_, rfl⟩
  try dsimp only at k5 hq
  obtain ⟨rfl, r, hl, hf⟩ := hq
  refine Ra hl hf ?_
  rintro g24 s r hl hf
  refine uh ?_
  obtain ⟨o27, l28, k7⟩ := uT k5
  refine A9 (f := A3 (Ag n) a0 a1 a2x) (E := fun (x : Int) s => DW [E_ 0 a0, I_ 1 a1, (2, .v (.ptr pja2 pta2 pga2 0)), (3, .v (.ptr pja3 pta3 pga3 0)), I_ 9 a0.len, I_ 13 x] s ∧ s.low = low ∧ uY DJ s) (Q := fun (o : ((T3 (Sl Int) (Sl AC) Bool) ⊕ (Unit))) j s => match o with | .inl w26 => j = .ret ∧ ul GY.1 low (.d (vG.enc w26)) .ret s | .inr _ => j = .exit 0 ∧ DW [] s ∧ s.low = low ∧ uY DJ s) l28 ?_ ⟨r, hl, hf⟩ ?_
  ·rintro x25 s out ⟨r, hl, hf⟩ k8
   unfold A3 at k8
   have q30 := EE ba2
   refine Ra hl hf ?_
   rintro g29 s r hl hf
   refine E2 r.2.2.2.2.2.2.1 k8 (fun c31 k8 => ?_) fun c31 k8 => ?_
   ·refine uh ?_
    obtain ⟨v32, h33, k9⟩ := uT k8
    obtain ⟨v34, h35, k10⟩ := uT k9
    obtain ⟨v36, h37, k11⟩ := uT k10
    have q40 := @HU
    have q41 := @kY
    have q42 := EE ba3
    have q43 := IA (sz := 1) rfl h33
    have q44 := GQ (sz := 1) (x := v32) (y := (Sl.cold [x25] : Sl Int)) rfl rfl h35
    have f38 : ∀ (e : uI) (c : Nat), (om zL).call 60 [.d (vG.enc v34), .d (.int a1), .ptr pja2 pta2 pga2 0, .ptr pja3 pta3 pga3 0] (low ++ [⟨e, none⟩]) c = some (.d (vG.enc (v36)), low ++ [⟨e, none⟩], QZ zL 60 [.d (vG.enc v34), .d (.int a1), .ptr pja2 pta2 pga2 0, .ptr pja3 pta3 pga3 0] (low ++ [⟨e, none⟩]) c) := fun e c => JO.om (ih (low ++ [(⟨e, none⟩ : Fr)]) v34 a1 a2x _ _ _ _ _ _ (F6 ba2) (F6 ba3) v36 h37) c
    have q46 := @f38
    refine Ra hl hf ?_ (h := by intro c; simp only [(gA h35 (by simp)), rt, ps, uD hf, *, reduceCtorEq, Nat.reduceEqDiff, Nat.reduceAdd, Nat.reduceMul] <;> rfl)
    rintro g39 s r hl hf
    refine Ra hl hf ?_
    rintro g47 s r hl hf
    refine E2 r.2.2.2.2.2.2.2.2.1 k11 (fun c48 k11 => ?_) fun c48 k11 => ?_
    ·refine Ra hl hf ?_
     rintro g49 s r hl hf
     obtain rfl := oK k11
     exact ⟨by decide, ⟨rfl, ⟨Or.inr rfl, hl, U0 (AL r.1) (AL r.2.1) (AL r.2.2.1)⟩⟩⟩
    refine Ra hl hf ?_
    rintro g50 s r hl hf
    obtain rfl := oK k11
    exact ⟨rfl, r, hl, hf⟩
   obtain rfl := oK k8
   exact ⟨by decide, ⟨rfl, trivial, hl, hf⟩⟩
  intro j s hq
  rcases o27 with w26 | _
  ·try dsimp only at k7 hq
   obtain ⟨rfl, hq⟩ := hq
   cases oK k7
   exact hq
  try dsimp only at k7 hq
  obtain ⟨rfl, -, hl, hf⟩ := hq
  refine Ra hl hf ?_
  rintro g51 s r hl hf
  cases oK k7
  exact ⟨Or.inr rfl, hl, U0 (AL r.1) (AL r.2.1) (AL r.2.2.1)⟩
theorem Hg {a0 : AB} {r : ((Sl Int) × (Sl AC))} (k0 : BM a0 = some r) : Fin zL 42 [vG.enc a0] (vG.enc r) := by
 unfold BM at k0; replace k0 := kq k0
 refine vF FR II ?_
 rintro low s r hl hf
 refine Ra hl hf ?_
 rintro g1 s r hl hf
 refine Ra hl hf ?_
 rintro g2 s r hl hf
 have q4 := @M1
 refine Ra hl hf ?_
 rintro g3 s r hl hf
 refine Ra hl hf ?_
 rintro g5 s r hl hf
 refine uh ?_
 obtain ⟨o8, l9, k1⟩ := uT k0
 refine A9 (f := BH a0) (E := fun (x : Int) s => DW [C_ 1 g1 a0, (4, .box g2 [.fn 60 [] [.ptr low.length 1 g1 0, .ptr low.length 4 g2 0]]), I_ 13 a0.BenchBook.Pieces.len, I_ 14 x] s ∧ s.low = low ∧ uY FR s) (Q := fun (o : (((Sl Int) × (Sl AC)) ⊕ (Unit))) j s => match o with | .inl w7 => j = .ret ∧ ul II.1 low (.d (vG.enc w7)) .ret s | .inr _ => j = .exit 0 ∧ DW [C_ 1 g1 a0, (4, .box g2 [.fn 60 [] [.ptr low.length 1 g1 0, .ptr low.length 4 g2 0]])] s ∧ s.low = low ∧ uY FR s) l9 ?_ ⟨r, hl, hf⟩ ?_
 ·rintro x6 s out ⟨r, hl, hf⟩ k2
  unfold BH at k2
  refine Ra hl hf ?_
  rintro g10 s r hl hf
  refine E2 r.2.2.2.2.1 k2 (fun c11 k2 => ?_) fun c11 k2 => ?_
  ·refine uh <| Ra hl hf ?_
   rintro g12 s r hl hf
   obtain ⟨v13, h14, k3⟩ := uT k2
   have q17 := @HU
   have q18 := @kY
   have f15 : ∀ (e : uI) (c : Nat) (z0 : uI.get 1 e = some (.box g1 ((vG.cells a0).map LV.d))) (z1 : uI.get 4 e = some (.box g2 [.fn 60 [] [.ptr low.length 1 g1 0, .ptr low.length 4 g2 0]])), (om zL).call 60 [.d .nils, .d (.int x6), .ptr low.length 1 g1 0, .ptr low.length 4 g2 0] (low ++ [⟨e, none⟩]) c = some (.d (vG.enc (v13)), low ++ [⟨e, none⟩], QZ zL 60 [.d .nils, .d (.int x6), .ptr low.length 1 g1 0, .ptr low.length 4 g2 0] (low ++ [⟨e, none⟩]) c) := fun e c z0 z1 => JO.om (JE 64 (low ++ [(⟨e, none⟩ : Fr)]) (Sl.nil : (Sl Int)) x6 a0 _ _ _ _ _ _ (P9 z0) (P9 z1) v13 h14) c
   have q19 := @f15
   refine Ra hl hf ?_
   rintro g16 s r hl hf
   refine Ra hl hf ?_
   rintro g20 s r hl hf
   refine E2 r.2.2.2.2.2.2.1 k3 (fun c21 k3 => ?_) fun c21 k3 => ?_
   ·refine Ra hl hf ?_
    rintro g22 s r hl hf
    obtain rfl := oK k3
    exact ⟨by decide, ⟨rfl, ⟨Or.inr rfl, hl, BJ (AL r.1) (AL r.2.1)⟩⟩⟩
   refine Ra hl hf ?_
   rintro g23 s r hl hf
   obtain rfl := oK k3
   exact ⟨rfl, r, hl, hf⟩
  obtain rfl := oK k2
  exact ⟨by decide, ⟨rfl, ⟨r.1, r.2.1, trivial⟩, hl, hf⟩⟩
 intro j s hq
 rcases o8 with w7 | _
 ·try dsimp only at k1 hq
  obtain ⟨rfl, hq⟩ := hq
  cases oK k1
  exact hq
 try dsimp only at k1 hq
 obtain ⟨rfl, r, hl, hf⟩ := hq
 obtain ⟨v25, h26, k4⟩ := uT k1
 obtain ⟨c24, hc24⟩ := HT (LP := zL) (ds := [vG.enc a0, .nils]) (EX h26); simp only [List.map_cons, List.map_nil] at hc24
 have q28 := @hc24
 refine Ra hl hf ?_
 rintro g27 s r hl hf
 cases oK k4
 exact ⟨Or.inr rfl, hl, BJ (AL r.1) (AL r.2.1)⟩
def FS := fun a0 => Cq.mk (@Hg a0)
theorem TS {a0 : BenchBook} {r : ((Sl Int) × Int)} (k0 : D2 a0 = some r) : Fin zL 16 [vG.enc a0] (vG.enc r) := by
 unfold D2 at k0; replace k0 := kq k0
 refine vF Vv WI ?_
 rintro low s r hl hf
 have q15 := @Df
 have q16 := @FS
 refine Ra hl hf ?_
 rintro g1 s r hl hf
 obtain ⟨v2, h3, k1⟩ := uT k0
 refine Ra hl hf ?_
 rintro g4 s r hl hf
 refine Ra hl hf ?_
 rintro g5 s r hl hf
 refine NF r.2.2.1 k1 (fun c6 k1 => ?_) fun c6 k1 => ?_
 ·obtain ⟨v7, h8, k2⟩ := uT k1
  refine Ra hl hf ?_
  rintro g9 s r hl hf
  obtain ⟨v10, h11, k3⟩ := uT k2
  have q13 := IA (sz := 1) rfl h11
  refine Ra hl hf ?_
  rintro g12 s r hl hf
  cases oK k3
  exact ⟨Or.inr rfl, hl, BJ (Zu r.1) (AL r.2.1)⟩
 refine Ra hl hf ?_
 rintro g14 s r hl hf
 cases oK k1
 exact ⟨Or.inr rfl, hl, BJ (AL r.1) (AL r.2.1)⟩
def NQ := fun a0 => Cq.mk (@TS a0)
theorem Vs {a0 : (Sl Int)} {a1 : (Sl Int)} {r : Bool} (k0 : Dt a0 a1 = some r) : Fin zL 29 [vG.enc a0, vG.enc a1] (.bool r) := by
 unfold Dt at k0; replace k0 := kq k0
 refine vF KQ Yw ?_
 rintro low s r hl hf
 refine Ra hl hf ?_
 rintro g1 s r hl hf
 refine Ra hl hf ?_
 rintro g2 s r hl hf
 refine Ra hl hf ?_
 rintro g3 s r hl hf
 refine uh ?_
 obtain ⟨o7, l8, k1⟩ := uT k0
 refine A9 (f := Bh a0 a1) (E := fun (x : Bool × Int) s => DW [E_ 0 a0, E_ 1 a1, B_ 5 x.1, I_ 6 x.2] s ∧ s.low = low ∧ uY KQ s) (Q := fun (y6 : Bool) j s => j = .exit 0 ∧ DW [B_ 5 y6] s ∧ s.low = low ∧ uY KQ s) l8 ?_ ⟨r, hl, hf⟩ ?_
 ·rintro ⟨x4, x5⟩ s out ⟨r, hl, hf⟩ k2
  dsimp only at r
  simp only [Bh] at k2
  refine Rx (fun g11 => [B_ 18 (x4 && (decide (x5 < a0.len)))]) hl hf ?_
  rintro g11 s r hl hf
  refine E2 r.2.2.2.2.1 k2 (fun c12 k2 => ?_) fun c12 k2 => ?_
  ·refine uh ?_
   obtain ⟨v13, h14, k3⟩ := uT k2
   obtain ⟨v15, h16, k4⟩ := uT k3
   refine Ra hl hf ?_
   rintro g17 s r hl hf
   refine Ra hl hf ?_
   rintro g18 s r hl hf
   obtain rfl := oK k4
   exact ⟨rfl, r, hl, hf⟩
  obtain rfl := oK k2
  exact ⟨by decide, ⟨rfl, ⟨r.2.2.1, trivial⟩, hl, hf⟩⟩
 intro j s hq
 obtain ⟨y6, rfl⟩ : ∃ x, x = o7 := ⟨_, rfl⟩
 try dsimp only at k1 hq
 obtain ⟨rfl, r, hl, hf⟩ := hq
 refine Ra hl hf ?_
 rintro g19 s r hl hf
 cases oK k1
 exact ⟨Or.inr rfl, hl, AO (AL r.1)⟩
def Ym := fun a0 a1 => Cq.mk (@Vs a0 a1)
theorem Wc {a0 : BenchBook} {r : ((Sl AC) × Int)} (k0 : Gf a0 = some r) : Fin zL 14 [vG.enc a0] (vG.enc r) := by
 unfold Gf at k0; replace k0 := kq k0
 refine vF ZU Z0 ?_
 rintro low s r hl hf
 have q12 := @Df
 have q13 := @FS
 refine Ra hl hf ?_
 rintro g1 s r hl hf
 obtain ⟨v2, h3, k1⟩ := uT k0
 refine Ra hl hf ?_
 rintro g4 s r hl hf
 refine Ra hl hf ?_
 rintro g5 s r hl hf
 refine NF r.2.2.1 k1 (fun c6 k1 => ?_) fun c6 k1 => ?_
 ·obtain ⟨v7, h8, k2⟩ := uT k1
  refine Ra hl hf ?_
  rintro g9 s r hl hf
  refine Ra hl hf ?_
  rintro g10 s r hl hf
  cases oK k2
  exact ⟨Or.inr rfl, hl, BJ (AL r.1) (AL r.2.1)⟩
 refine Ra hl hf ?_
 rintro g11 s r hl hf
 cases oK k1
 exact ⟨Or.inr rfl, hl, BJ (AL r.1) (AL r.2.1)⟩
def Oi := fun a0 => Cq.mk (@Wc a0)
theorem ZD {a0 : BenchBook} {r : ((Sl AC) × Int)} (k0 : Jh a0 = some r) : Fin zL 30 [vG.enc a0] (vG.enc r) := by
 unfold Jh at k0; replace k0 := kq k0
 refine vF dJ bz ?_
 rintro low s r hl hf
 have q20 := @Df
 have q21 := @F5
 have q22 := @DZ
 refine Ra hl hf ?_
 rintro g1 s r hl hf
 obtain ⟨v2, h3, k1⟩ := uT k0
 refine Ra hl hf ?_
 rintro g4 s r hl hf
 refine Ra hl hf ?_
 rintro g5 s r hl hf
 refine NF r.2.2.1 k1 (fun c6 k1 => ?_) fun c6 k1 => ?_
 ·obtain ⟨v7, h8, k2⟩ := uT k1
  obtain ⟨v9, h10, k3⟩ := uT k2
  obtain ⟨v11, h12, k4⟩ := uT k3
  have q14 := Fin.call (LP := zL) (ds := [vG.enc v2.1, .nils]) (EX h8)
  refine Ra hl hf ?_
  rintro g13 s r hl hf
  refine Ra hl hf ?_
  rintro g15 s r hl hf
  refine NF r.2.1 k4 (fun c16 k4 => ?_) fun c16 k4 => ?_
  ·refine Ra hl hf ?_
   rintro g17 s r hl hf
   cases oK k4
   exact ⟨Or.inr rfl, hl, BJ (AL r.1) (AL r.2.1)⟩
  refine Ra hl hf ?_
  rintro g18 s r hl hf
  cases oK k4
  exact ⟨Or.inr rfl, hl, BJ (AL r.1) (AL r.2.1)⟩
 refine Ra hl hf ?_
 rintro g19 s r hl hf
 cases oK k1
 exact ⟨Or.inr rfl, hl, BJ (AL r.1) (AL r.2.1)⟩
def bO := fun a0 => Cq.mk (@ZD a0)
theorem Is {low : List Fr} (a0 : Int) (a1x : Int) {pja1 : Nat} {pta1 : Nat} {pga1 : Nat} (ba1 : HD low pja1 pta1 = some (.box pga1 [.d (.int a1x)])) : JO zL 44 [.d (.int a0), .ptr pja1 pta1 pga1 0] low (.d (.bool (Ee a0 a1x))) := by
 refine en UD Ud ?_
 rintro s r hl hf
 refine Ra hl hf ?_
 rintro g1 s r hl hf
 have q3 := EE ba1
 refine Ra hl hf ?_
 rintro g2 s r hl hf
 exact ⟨Or.inr rfl, hl, AO (AL r.1)⟩
theorem Pq {low : List Fr} {a0 : BenchBook} {a1s0c0x : Int} {pja1s0c0 : Nat} {pta1s0c0 : Nat} {pga1s0c0 : Nat} (ba1s0c0 : HD low pja1s0c0 pta1s0c0 = some (.box pga1s0c0 [.d (.int a1s0c0x)])) {r : AB} (k0 : GN a0 a1s0c0x = some r) : JO zL 43 [.d (vG.enc a0), .agg [.fn 44 [] [.ptr pja1s0c0 pta1s0c0 pga1s0c0 0]]] low (.d (vG.enc r)) := by
 unfold GN at k0; replace k0 := kq k0
 refine en A8 NU ?_
 rintro s r hl hf
 have q2 := @fa
 have q3 := @bG
 have q4 := @HE
 refine Ra hl hf ?_
 rintro g1 s r hl hf
 have q6 := @Ey
 have q7 := @Ge
 have q8 := @Md
 have q9 := @IH
 have q10 := @HE
 have q11 := @lT
 refine Ra hl hf ?_ (h := by intro c; simp only [(Qd (n := 2) (AI.mk (-1) (-1)) rfl (by decide)), (QK (LP := zL) (t := 13) (gm := c + 1) (key := (BZ.key (AI.mk (-1) (-1)))) (a := (Sl.nil : (Sl Int))) (vd := .nils) (hav := rfl)), rt, ps, uD hf, *, reduceCtorEq, Nat.reduceEqDiff, Nat.reduceAdd, Nat.reduceMul] <;> rfl)
 rintro g5 s r hl hf
 have q15 := @It
 have q16 := @Di
 refine Ra hl hf ?_
 rintro g14 s r hl hf
 refine Ra hl hf ?_
 rintro g17 s r hl hf
 refine uh ?_
 obtain ⟨o21, l22, k1⟩ := uT k0
 refine A9 (f := GI a0 a1s0c0x) (E := fun (x : (List (List Int × (Sl Int))) × Int) s => DW [C_ 2 g1 a0, (3, .box (g1 + 1) [.fn 44 [] [.ptr pja1s0c0 pta1s0c0 pga1s0c0 0]]), C_ 4 (g1 + 1 + 1) (AB.mk (BenchBook.mk (VoiceBook.mk (Sl.nil : (Sl AN)) 0 (Sl.nil : (Sl AE))) (Sl.nil : (Sl AK)) 0) (Mp.nil : (Mp 2 (Sl Int)))), (5, .box (g5 + 1 + 1 + 1 + 1 + 1 + 1) (AB.lc (AB.mk a0 (Mp.nil : (Mp 2 (Sl Int)))) low.length 13 (g5 + 1))), (6, .v (.fn 61 [.agg (AB.lc (AB.mk a0 (Mp.nil : (Mp 2 (Sl Int)))) low.length 13 (g5 + 1))] [])), (13, .mapo (g5 + 1) 2 (DK x.1)), E_ 20 a0.Pieces, I_ 21 a0.Pieces.len, I_ 22 x.2] s ∧ s.low = low ∧ uY A8 s) (Q := fun (y20 : (List (List Int × (Sl Int)))) j s => j = .exit 0 ∧ DW [C_ 2 g1 a0, (3, .box (g1 + 1) [.fn 44 [] [.ptr pja1s0c0 pta1s0c0 pga1s0c0 0]]), C_ 4 (g1 + 1 + 1) (AB.mk (BenchBook.mk (VoiceBook.mk (Sl.nil : (Sl AN)) 0 (Sl.nil : (Sl AE))) (Sl.nil : (Sl AK)) 0) (Mp.nil : (Mp 2 (Sl Int)))), (5, .box (g5 + 1 + 1 + 1 + 1 + 1 + 1) (AB.lc (AB.mk a0 (Mp.nil : (Mp 2 (Sl Int)))) low.length 13 (g5 + 1))), (13, .mapo (g5 + 1) 2 (DK y20))] s ∧ s.low = low ∧ uY A8 s) l22 ?_ ⟨r, hl, hf⟩ ?_
 ·rintro ⟨x18, x19⟩ s out ⟨r, hl, hf⟩ k2
  dsimp only at r
  simp only [GI] at k2
  refine Ra hl hf ?_
  rintro g23 s r hl hf
  refine E2 r.2.2.2.2.2.2.2.2.2.1 k2 (fun c24 k2 => ?_) fun c24 k2 => ?_
  ·refine uh ?_
   obtain ⟨v25, h26, k3⟩ := uT k2
   refine Ra hl hf ?_
   rintro g27 s r hl hf
   refine Ra hl hf ?_
   rintro g28 s r hl hf
   refine uh ?_
   obtain ⟨o32, l33, k4⟩ := uT k3
   refine A9 (f := GL a0 a1s0c0x x19 v25) (E := fun (x : (List (List Int × (Sl Int))) × Int) s => DW [C_ 2 g1 a0, (3, .box (g1 + 1) [.fn 44 [] [.ptr pja1s0c0 pta1s0c0 pga1s0c0 0]]), C_ 4 (g1 + 1 + 1) (AB.mk (BenchBook.mk (VoiceBook.mk (Sl.nil : (Sl AN)) 0 (Sl.nil : (Sl AE))) (Sl.nil : (Sl AK)) 0) (Mp.nil : (Mp 2 (Sl Int)))), (5, .box (g5 + 1 + 1 + 1 + 1 + 1 + 1) (AB.lc (AB.mk a0 (Mp.nil : (Mp 2 (Sl Int)))) low.length 13 (g5 + 1))), (6, .v (.fn 61 [.agg (AB.lc (AB.mk a0 (Mp.nil : (Mp 2 (Sl Int)))) low.length 13 (g5 + 1))] [])), I_ 7 x19, (13, .mapo (g5 + 1) 2 (DK x.1)), E_ 20 a0.Pieces, I_ 21 a0.Pieces.len, I_ 22 x19, I_ 29 v25.Parts.len, I_ 30 x.2] s ∧ s.low = low ∧ uY A8 s) (Q := fun (y31 : (List (List Int × (Sl Int)))) j s => j = .exit 2 ∧ DW [C_ 2 g1 a0, (3, .box (g1 + 1) [.fn 44 [] [.ptr pja1s0c0 pta1s0c0 pga1s0c0 0]]), C_ 4 (g1 + 1 + 1) (AB.mk (BenchBook.mk (VoiceBook.mk (Sl.nil : (Sl AN)) 0 (Sl.nil : (Sl AE))) (Sl.nil : (Sl AK)) 0) (Mp.nil : (Mp 2 (Sl Int)))), (5, .box (g5 + 1 + 1 + 1 + 1 + 1 + 1) (AB.lc (AB.mk a0 (Mp.nil : (Mp 2 (Sl Int)))) low.length 13 (g5 + 1))), (6, .v (.fn 61 [.agg (AB.lc (AB.mk a0 (Mp.nil : (Mp 2 (Sl Int)))) low.length 13 (g5 + 1))] [])), (13, .mapo (g5 + 1) 2 (DK y31)), E_ 20 a0.Pieces, I_ 21 a0.Pieces.len, I_ 22 x19] s ∧ s.low = low ∧ uY A8 s) l33 ?_ ⟨r, hl, hf⟩ ?_
   ·rintro ⟨x29, x30⟩ s out ⟨r, hl, hf⟩ k5
    dsimp only at r
    simp only [GL] at k5
    refine Ra hl hf ?_
    rintro g34 s r hl hf
    refine E2 r.2.2.2.2.2.2.2.2.2.2.2.2.1 k5 (fun ua k5 => ?_) fun ua k5 => ?_
    ·refine uh <| Ra hl hf ?_
     rintro g36 s r hl hf
     have q38 := @EZ
     refine Ra hl hf ?_
     rintro g37 s r hl hf
     refine Ra hl hf ?_
     rintro g39 s r hl hf
     refine uh ?_
     obtain ⟨o43, l44, k6⟩ := uT k5
     refine A9 (f := Fq a0 a1s0c0x x19 x30) (E := fun (x : (List (List Int × (Sl Int))) × Int) s => DW [C_ 2 g1 a0, (3, .box (g1 + 1) [.fn 44 [] [.ptr pja1s0c0 pta1s0c0 pga1s0c0 0]]), C_ 4 (g1 + 1 + 1) (AB.mk (BenchBook.mk (VoiceBook.mk (Sl.nil : (Sl AN)) 0 (Sl.nil : (Sl AE))) (Sl.nil : (Sl AK)) 0) (Mp.nil : (Mp 2 (Sl Int)))), (5, .box (g5 + 1 + 1 + 1 + 1 + 1 + 1) (AB.lc (AB.mk a0 (Mp.nil : (Mp 2 (Sl Int)))) low.length 13 (g5 + 1))), (6, .v (.fn 61 [.agg (AB.lc (AB.mk a0 (Mp.nil : (Mp 2 (Sl Int)))) low.length 13 (g5 + 1))] [])), I_ 7 x19, C_ 10 (g37 + 1 + 1 + 1) (AI.mk x19 x30), (13, .mapo (g5 + 1) 2 (DK x.1)), E_ 20 a0.Pieces, I_ 21 a0.Pieces.len, I_ 22 x19, I_ 29 v25.Parts.len, I_ 30 x30, I_ 39 a0.Voice.Boys.len, I_ 40 x.2] s ∧ s.low = low ∧ uY A8 s) (Q := fun (y42 : (List (List Int × (Sl Int)))) j s => j = .exit 4 ∧ DW [C_ 2 g1 a0, (3, .box (g1 + 1) [.fn 44 [] [.ptr pja1s0c0 pta1s0c0 pga1s0c0 0]]), C_ 4 (g1 + 1 + 1) (AB.mk (BenchBook.mk (VoiceBook.mk (Sl.nil : (Sl AN)) 0 (Sl.nil : (Sl AE))) (Sl.nil : (Sl AK)) 0) (Mp.nil : (Mp 2 (Sl Int)))), (5, .box (g5 + 1 + 1 + 1 + 1 + 1 + 1) (AB.lc (AB.mk a0 (Mp.nil : (Mp 2 (Sl Int)))) low.length 13 (g5 + 1))), (6, .v (.fn 61 [.agg (AB.lc (AB.mk a0 (Mp.nil : (Mp 2 (Sl Int)))) low.length 13 (g5 + 1))] [])), I_ 7 x19, C_ 10 (g37 + 1 + 1 + 1) (AI.mk x19 x30), (13, .mapo (g5 + 1) 2 (DK y42)), E_ 20 a0.Pieces, I_ 21 a0.Pieces.len, I_ 22 x19, I_ 29 v25.Parts.len, I_ 30 x30] s ∧ s.low = low ∧ uY A8 s) l44 ?_ ⟨r, hl, hf⟩ ?_
     ·rintro ⟨x40, x41⟩ s out ⟨r, hl, hf⟩ k7
      dsimp only at r
      simp only [Fq] at k7
      refine Ra hl hf ?_
      rintro g45 s r hl hf
      refine E2 r.2.2.2.2.2.2.2.2.2.2.2.2.2.2.2.1 k7 (fun c46 k7 => ?_) fun c46 k7 => ?_
      ·refine uh <| Ra hl hf ?_
       rintro g47 s r hl hf
       obtain ⟨o53, q54, k8⟩ := uT k7
       refine gY [C_ 2 g1 a0, (3, .box (g1 + 1) [.fn 44 [] [.ptr pja1s0c0 pta1s0c0 pga1s0c0 0]]), C_ 4 (g1 + 1 + 1) (AB.mk (BenchBook.mk (VoiceBook.mk (Sl.nil : (Sl AN)) 0 (Sl.nil : (Sl AE))) (Sl.nil : (Sl AK)) 0) (Mp.nil : (Mp 2 (Sl Int)))), (5, .box (g5 + 1 + 1 + 1 + 1 + 1 + 1) (AB.lc (AB.mk a0 (Mp.nil : (Mp 2 (Sl Int)))) low.length 13 (g5 + 1))), (6, .v (.fn 61 [.agg (AB.lc (AB.mk a0 (Mp.nil : (Mp 2 (Sl Int)))) low.length 13 (g5 + 1))] [])), I_ 7 x19, C_ 10 (g37 + 1 + 1 + 1) (AI.mk x19 x30), I_ 11 x41, (13, .mapo (g5 + 1) 2 (DK x40)), E_ 20 a0.Pieces, I_ 21 a0.Pieces.len, I_ 22 x19, I_ 29 v25.Parts.len, I_ 30 x30, I_ 39 a0.Voice.Boys.len, I_ 40 x41, B_ 53 o53] hl hf ?_ ?_
       ·by_cases c49 : (Ee x41 a1s0c0x) = true
        ·rw [if_pos c49] at q54
         have e1 := oI q54
         have f48 : ∀ (e : uI) (c : Nat), (om zL).call 44 [.d (.int x41), .ptr pja1s0c0 pta1s0c0 pga1s0c0 0] (low ++ [⟨e, none⟩]) c = some (.d (.bool ((Ee x41 a1s0c0x))), low ++ [⟨e, none⟩], QZ zL 44 [.d (.int x41), .ptr pja1s0c0 pta1s0c0 pga1s0c0 0] (low ++ [⟨e, none⟩]) c) := fun e c => JO.om (Is x41 a1s0c0x (F6 ba1s0c0)) c
         simp only [rs, ps, BQ, GR, HU, Cj, hl, uD hf, r, f48, c49, ← e1, reduceCtorEq, Nat.reduceEqDiff, Nat.reduceAdd]
        rw [if_neg c49] at q54
        have c49 := eq_false_of_ne_true c49
        obtain ⟨v50, h51, q72⟩ := t3 q54
        have e1 := oI q72
        have f48 : ∀ (e : uI) (c : Nat), (om zL).call 44 [.d (.int x41), .ptr pja1s0c0 pta1s0c0 pga1s0c0 0] (low ++ [⟨e, none⟩]) c = some (.d (.bool ((Ee x41 a1s0c0x))), low ++ [⟨e, none⟩], QZ zL 44 [.d (.int x41), .ptr pja1s0c0 pta1s0c0 pga1s0c0 0] (low ++ [⟨e, none⟩]) c) := fun e c => JO.om (Is x41 a1s0c0x (F6 ba1s0c0)) c
        have f52 : ∀ (e : uI) (c : Nat), (om zL).call 61 [.agg (AB.lc (AB.mk a0 (Mp.nil : (Mp 2 (Sl Int)))) low.length 13 (g5 + 1)), .d (vG.enc (AI.mk x19 x30)), .d (.int x41)] (low ++ [⟨e, none⟩]) c = some (.d (.bool (v50)), low ++ [⟨e, none⟩], QZ zL 61 [.agg (AB.lc (AB.mk a0 (Mp.nil : (Mp 2 (Sl Int)))) low.length 13 (g5 + 1)), .d (vG.enc (AI.mk x19 x30)), .d (.int x41)] (low ++ [⟨e, none⟩]) c) := fun e c => JO.om (IK (by first | omega | (simp only [List.length_append, List.length_cons, List.length_nil]; omega)) h51) c
        simp only [rs, ps, BQ, GR, HU, Cj, hl, uD hf, r, f48, c49, f52, ← e1, reduceCtorEq, Nat.reduceEqDiff, Nat.reduceAdd]
       rintro s r hl hf
       refine E2 r.2.2.2.2.2.2.2.2.2.2.2.2.2.2.2.2.1 k8 (fun uH k8 => ?_) fun uH k8 => ?_
       ·refine Ra hl hf ?_
        rintro g58 s r hl hf
        obtain rfl := oK k8
        exact ⟨rfl, r, hl, hf⟩
       obtain ⟨v59, h60, k9⟩ := uT k8
       have q62 := @Md
       have q63 := @IH
       have q64 := @Ia
       have q68 := GQ (sz := 1) (x := (LH (Sl.nil : (Sl Int)) x40 (BZ.key (AI.mk x19 x30)))) (y := (Sl.cold [x41] : Sl Int)) rfl rfl h60
       refine Ra hl hf ?_ (h := by intro c; simp only [(Qd (n := 2) (AI.mk x19 x30) rfl (by decide)), (PI (LP := zL) (t := 13) (gm := g5 + 1) (key := (BZ.key (AI.mk x19 x30))) (es := x40) (z := (Sl.nil : (Sl Int))) (hz := rfl)), (Zo (LP := zL) (a := (LH (Sl.nil : (Sl Int)) x40 (BZ.key (AI.mk x19 x30)))) (y := .d (.int (Fg x40 (BZ.key (AI.mk x19 x30)))))), (Oz (LP := zL) (x := Sl.lv (Sl.spent (LH (Sl.nil : (Sl Int)) x40 (BZ.key (AI.mk x19 x30))))) (y := .int (Fg x40 (BZ.key (AI.mk x19 x30))))), (O9 (LP := zL) (t := 13) (gm := g5 + 1) (key := (BZ.key (AI.mk x19 x30))) (es := x40) (z := (Sl.nil : (Sl Int))) (a := v59)), rt, ps, uD hf, *, reduceCtorEq, Nat.reduceEqDiff, Nat.reduceAdd, Nat.reduceMul] <;> rfl)
       rintro g61 s r hl hf
       refine Ra hl hf ?_
       rintro g71 s r hl hf
       obtain rfl := oK k9
       exact ⟨rfl, r, hl, hf⟩
      obtain rfl := oK k7
      exact ⟨by decide, ⟨rfl, ⟨r.1, r.2.1, r.2.2.1, r.2.2.2.1, r.2.2.2.2.1, r.2.2.2.2.2.1, r.2.2.2.2.2.2.1, r.2.2.2.2.2.2.2.1, r.2.2.2.2.2.2.2.2.1, r.2.2.2.2.2.2.2.2.2.1, r.2.2.2.2.2.2.2.2.2.2.1, r.2.2.2.2.2.2.2.2.2.2.2.1, r.2.2.2.2.2.2.2.2.2.2.2.2.1, trivial⟩, hl, hf⟩⟩
     intro j s hq
     obtain ⟨y42, rfl⟩ : ∃ x, x = o43 := ⟨_, rfl⟩
     try dsimp only at k6 hq
     obtain ⟨rfl, r, hl, hf⟩ := hq
     refine Ra hl hf ?_
     rintro g73 s r hl hf
     obtain rfl := oK k6
     exact ⟨rfl, r, hl, hf⟩
    obtain rfl := oK k5
    exact ⟨by decide, ⟨rfl, ⟨r.1, r.2.1, r.2.2.1, r.2.2.2.1, r.2.2.2.2.1, r.2.2.2.2.2.2.1, r.2.2.2.2.2.2.2.1, r.2.2.2.2.2.2.2.2.1, r.2.2.2.2.2.2.2.2.2.1, trivial⟩, hl, hf⟩⟩
   intro j s hq
   obtain ⟨y31, rfl⟩ : ∃ x, x = o32 := ⟨_, rfl⟩
   try dsimp only at k4 hq
   obtain ⟨rfl, r, hl, hf⟩ := hq
   refine Ra hl hf ?_
   rintro g74 s r hl hf
   obtain rfl := oK k4
   exact ⟨rfl, r, hl, hf⟩
  obtain rfl := oK k2
  exact ⟨by decide, ⟨rfl, ⟨r.1, r.2.1, r.2.2.1, r.2.2.2.1, r.2.2.2.2.2.1, trivial⟩, hl, hf⟩⟩
 intro j s hq
 obtain ⟨y20, rfl⟩ : ∃ x, x = o21 := ⟨_, rfl⟩
 try dsimp only at k1 hq
 obtain ⟨rfl, r, hl, hf⟩ := hq
 have q76 := @Ey
 have q77 := @Ge
 have q78 := @Di
 refine Ra hl hf ?_
 rintro g75 s r hl hf
 cases oK k1
 exact ⟨Or.inr rfl, hl, AO (Jn (by rw [hl]; exact r.1) r.2.1)⟩
theorem WS {a0 : Int} {a1 : (Sl Int)} {r : Int} (k0 : J1 a0 a1 = some r) : Fin zL 45 [.int a0, vG.enc a1] (.int r) := by
 unfold J1 at k0; replace k0 := kq k0
 refine vF KF Ys ?_
 rintro low s r hl hf
 refine Ra hl hf ?_
 rintro g1 s r hl hf
 refine Ra hl hf ?_
 rintro g2 s r hl hf
 refine uh ?_
 obtain ⟨o6, l7, k1⟩ := uT k0
 refine A9 (f := I5 a1) (E := fun (x : Int × Int) s => DW [I_ 0 x.1, E_ 7 a1, I_ 8 a1.len, I_ 9 x.2] s ∧ s.low = low ∧ uY KF s) (Q := fun (y5 : Int) j s => j = .exit 0 ∧ DW [I_ 0 y5] s ∧ s.low = low ∧ uY KF s) l7 ?_ ⟨r, hl, hf⟩ ?_
 ·rintro ⟨x3, x4⟩ s out ⟨r, hl, hf⟩ k2
  dsimp only at r
  simp only [I5] at k2
  refine Ra hl hf ?_
  rintro g8 s r hl hf
  refine E2 r.2.2.2.2.1 k2 (fun c9 k2 => ?_) fun c9 k2 => ?_
  ·refine uh ?_
   obtain ⟨v10, h11, k3⟩ := uT k2
   refine Ra hl hf ?_
   rintro g12 s r hl hf
   have q14 := @dm
   refine Ra hl hf ?_
   rintro g13 s r hl hf
   refine Ra hl hf ?_
   rintro g15 s r hl hf
   obtain rfl := oK k3
   exact ⟨rfl, r, hl, hf⟩
  obtain rfl := oK k2
  exact ⟨by decide, ⟨rfl, ⟨r.1, trivial⟩, hl, hf⟩⟩
 intro j s hq
 obtain ⟨y5, rfl⟩ : ∃ x, x = o6 := ⟨_, rfl⟩
 try dsimp only at k1 hq
 obtain ⟨rfl, r, hl, hf⟩ := hq
 refine Ra hl hf ?_
 rintro g16 s r hl hf
 cases oK k1
 exact ⟨Or.inr rfl, hl, AO (AL r.1)⟩
def YF := fun a0 a1 => Cq.mk (@WS a0 a1)
theorem YT {a0 : BenchBook} {r : ((Sl Int) × Int)} (k0 : H5 a0 = some r) : Fin zL 13 [vG.enc a0] (vG.enc r) := by
 unfold H5 at k0; replace k0 := kq k0
 refine vF LQ aV ?_
 rintro low s r hl hf
 have q49 := @Df
 have q50 := @FS
 have q51 := @YF
 refine Ra hl hf ?_
 rintro g1 s r hl hf
 obtain ⟨v2, h3, k1⟩ := uT k0
 refine Ra hl hf ?_
 rintro g4 s r hl hf
 refine Ra hl hf ?_
 rintro g5 s r hl hf
 refine NF r.2.2.2.1 k1 (fun c6 k1 => ?_) fun c6 k1 => ?_
 ·obtain ⟨v7, h8, k2⟩ := uT k1
  refine Ra hl hf ?_
  rintro g9 s r hl hf
  refine Ra hl hf ?_
  rintro g10 s r hl hf
  refine Ra hl hf ?_
  rintro g11 s r hl hf
  refine uh ?_
  obtain ⟨uk, l16, k3⟩ := uT k2
  refine A9 (f := Eq a0 v7) (E := fun (x : (Sl Int) × Int) s => DW [C_ 1 g1 a0, E_ 6 v7.1, (8, .v (Sl.lv x.1)), I_ 28 a0.Voice.Boys.len, I_ 29 x.2] s ∧ s.low = low ∧ uY LQ s) (Q := fun (y14 : (Sl Int)) j s => j = .exit 0 ∧ DW [C_ 1 g1 a0, (8, .v (Sl.lv y14))] s ∧ s.low = low ∧ uY LQ s) l16 ?_ ⟨r, hl, hf⟩ ?_
  ·rintro ⟨x12, x13⟩ s out ⟨r, hl, hf⟩ k4
   dsimp only at r
   simp only [Eq] at k4
   refine Ra hl hf ?_
   rintro g17 s r hl hf
   refine E2 r.2.2.2.2.2.1 k4 (fun c18 k4 => ?_) fun c18 k4 => ?_
   ·refine uh <| Ra hl hf ?_
    rintro g19 s r hl hf
    obtain ⟨v20, h21, k5⟩ := uT k4
    obtain ⟨v24, h25, k6⟩ := uT k5
    have q27 := @mq
    have q28 := @nf
    have q29 := @nL
    have q30 := @ja
    have f22 : ∀ (e : uI) (c : Nat) (z0 : uI.get 9 e = some (.box (g19 + 1) [.d (.int x13)])), (om zL).call 43 [.d (vG.enc a0), .agg [.fn 44 [] [.ptr low.length 9 (g19 + 1) 0]]] (low ++ [⟨e, none⟩]) c = some (.d (vG.enc (v20)), low ++ [⟨e, none⟩], QZ zL 43 [.d (vG.enc a0), .agg [.fn 44 [] [.ptr low.length 9 (g19 + 1) 0]]] (low ++ [⟨e, none⟩]) c) := fun e c z0 => JO.om (Pq (P9 z0) h21) c
    have q31 := @f22
    obtain ⟨uP, hc23⟩ := HT (LP := zL) (ds := [vG.enc v20]) (Hg h25); simp only [List.map_cons, List.map_nil] at hc23
    have q32 := @hc23
    refine Ra hl hf ?_
    rintro g26 s r hl hf
    obtain ⟨v33, h34, k7⟩ := uT k6
    refine Ra hl hf ?_
    rintro g35 s r hl hf
    refine E2 r.2.2.2.2.2.2.1 k7 (fun c36 k7 => ?_) fun c36 k7 => ?_
    ·obtain ⟨v37, h38, k8⟩ := uT k7
     have q40 := GQ (sz := 1) (x := x12) (y := (Sl.cold [x13] : Sl Int)) rfl rfl h38
     refine Ra hl hf ?_
     rintro g39 s r hl hf
     refine Ra hl hf ?_
     rintro g41 s r hl hf
     obtain rfl := oK k8
     exact ⟨rfl, r, hl, hf⟩
    refine Ra hl hf ?_
    rintro g42 s r hl hf
    obtain rfl := oK k7
    exact ⟨rfl, r, hl, hf⟩
   obtain rfl := oK k4
   exact ⟨by decide, ⟨rfl, ⟨r.1, r.2.2.1, trivial⟩, hl, hf⟩⟩
  intro j s hq
  obtain ⟨y14, rfl⟩ : ∃ x, x = uk := ⟨_, rfl⟩
  try dsimp only at k3 hq
  obtain ⟨rfl, r, hl, hf⟩ := hq
  obtain ⟨v43, h44, k9⟩ := uT k3
  have q46 := @kK
  have q47 := IA (sz := 1) rfl h44
  refine Ra hl hf ?_
  rintro g45 s r hl hf
  cases oK k9
  exact ⟨Or.inr rfl, hl, BJ (Zu r.1) (AL r.2.1)⟩
 refine Ra hl hf ?_
 rintro g48 s r hl hf
 cases oK k1
 exact ⟨Or.inr rfl, hl, BJ (AL r.1) (AL r.2.1)⟩
def RS := fun a0 => Cq.mk (@YT a0)
end Go.Lf
