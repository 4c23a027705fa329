/- A part of the proof. -/
import Derived.Test.YtopknkghclncnaaGreatDoorx28
import Derived.Test.YtopknkghclncnaaGreatDoorx30
import Derived.Test.YtopknkghclncnaaGreatDoorx47
import Derived.Test.YtopknkghclncnaaGreatDoorx48
import Derived.Test.YtopknkghclncnaaGreatDoorx49
set_option linter.all false
set_option maxHeartbeats 9999999
namespace Go.Lf
open Go
theorem fj {a0 : BenchBook} {a1 : Int} {r : (Int × Int)} (k0 : Lp a0 a1 = some r) : Fin zL 12 [Enc.enc a0, .int a1] (Enc.enc r) := by
 unfold Lp at k0; replace k0 := kq k0
 refine fnN Oh VP ?_
 rintro low s r hl hf
 have q28 := @Eo
 have q29 := @EC
 have q30 := @OQ
 refine Ra hl hf ?_
 rintro g1 s r hl hf
 obtain ⟨v2, h3, k1⟩ := bnk k0
 refine Ra hl hf ?_
 rintro g4 s r hl hf
 refine Ra hl hf ?_
 rintro g5 s r hl hf
 refine JV r.2.2.2.1 k1 (fun c6 k1 => ?_) fun c6 k1 => ?_
 ·obtain ⟨v7, h8, k2⟩ := bnk k1
  refine Ra hl hf ?_
  rintro g9 s r hl hf
  refine Ra hl hf ?_
  rintro g10 s r hl hf
  refine blk ?_
  obtain ⟨o13, l14, k3⟩ := bnk k2
  refine AY (f := Gj a0 a1 v7) (E := fun (x : Int) s => BG [I_ 1 a1, C_ 2 g1 a0, E_ 7 v7, I_ 8 x] s ∧ s.low = low ∧ NoB Oh s) (Q := fun (o : ((Int × Int) ⊕ (Unit))) j s => match o with | .inl w12 => j = .ret ∧ FnJ VP.1 low (.d (Enc.enc w12)) .ret s | .inr _ => j = .exit 0 ∧ BG [C_ 2 g1 a0] s ∧ s.low = low ∧ NoB Oh s) l14 ?_ ⟨r, hl, hf⟩ ?_
  ·rintro x11 s out ⟨r, hl, hf⟩ k4
   unfold Gj at k4
   obtain ⟨v15, h16, k5⟩ := bnk k4
   refine Ra hl hf ?_
   rintro g17 s r hl hf
   refine Bn r.2.2.2.2.1 k5 (fun c18 k5 => ?_) fun c18 k5 => ?_
   ·refine blk ?_
    obtain ⟨v19, h20, k6⟩ := bnk k5
    have q22 := Fin.call (LP := zL) (ds := [Enc.enc a0, Enc.enc v7, .int a1, .int 0, .int (W (x11 + 1)), .nils]) (MM 64 a0 v7 a1 0 (W (x11 + 1)) (Sl.nil : (Sl AA)) v19 h20)
    refine Ra hl hf ?_
    rintro g21 s r hl hf
    refine Bn r.2.2.2.2.1 k6 (fun c23 k6 => ?_) fun c23 k6 => ?_
    ·refine Ra hl hf ?_
     rintro g24 s r hl hf
     obtain rfl := oK k6
     exact ⟨by decide, ⟨rfl, ⟨Or.inr rfl, hl, Av (AE r.1) (AE r.2.1)⟩⟩⟩
    refine Ra hl hf ?_
    rintro g25 s r hl hf
    obtain rfl := oK k6
    exact ⟨rfl, r, hl, hf⟩
   obtain rfl := oK k5
   exact ⟨by decide, ⟨rfl, ⟨r.2.1, trivial⟩, hl, hf⟩⟩
  intro j s hq
  rcases o13 with w12 | _
  ·try dsimp only at k3 hq
   obtain ⟨rfl, hq⟩ := hq
   cases oK k3
   exact hq
  try dsimp only at k3 hq
  obtain ⟨rfl, r, hl, hf⟩ := hq
  refine Ra hl hf ?_
  rintro g26 s r hl hf
  cases oK k3
  exact ⟨Or.inr rfl, hl, Av (AE r.1) (AE r.2.1)⟩
 refine Ra hl hf ?_
 rintro g27 s r hl hf
 cases oK k1
 exact ⟨Or.inr rfl, hl, Av (AE r.1) (AE r.2.1)⟩
def kA := fun a0 a1 => Cq.mk (@fj a0 a1)
theorem Ys {a0 : (Sl AA)} {a1 : (Sl AA)} {r : Bool} (k0 : JB a0 a1 = some r) : Fin zL 42 [Enc.enc a0, Enc.enc a1] (.bool r) := by
 unfold JB at k0; replace k0 := kq k0
 refine fnN LE QV ?_
 rintro low s r hl hf
 refine Ra hl hf ?_
 rintro g1 s r hl hf
 refine Ra hl hf ?_
 rintro g2 s r hl hf
 refine JV r.2.2.1 k0 (fun c3 k0 => ?_) fun c3 k0 => ?_
 ·refine Ra hl hf ?_
  rintro g4 s r hl hf
  refine blk ?_
  obtain ⟨o7, l8, k1⟩ := bnk k0
  refine AY (f := BO a0 a1) (E := fun (x : Int) s => BG [E_ 0 a0, E_ 1 a1, I_ 12 a0.len, I_ 13 x] s ∧ s.low = low ∧ NoB LE s) (Q := fun (o : ((Bool) ⊕ (Unit))) j s => match o with | .inl w6 => j = .ret ∧ FnJ QV.1 low (.d (.bool w6)) .ret s | .inr _ => j = .exit 0 ∧ BG [] s ∧ s.low = low ∧ NoB LE s) l8 ?_ ⟨r, hl, hf⟩ ?_
  ·rintro x5 s out ⟨r, hl, hf⟩ k2
   unfold BO at k2
   refine Ra hl hf ?_
   rintro g9 s r hl hf
   refine Bn r.2.2.2.2.1 k2 (fun c10 k2 => ?_) fun c10 k2 => ?_
   ·refine blk <| Ra hl hf ?_
    rintro g11 s r hl hf
    obtain ⟨v12, h13, k3⟩ := bnk k2
    obtain ⟨v14, h15, k4⟩ := bnk k3
    refine Ra hl hf ?_
    rintro g16 s r hl hf
    refine JV r.2.2.2.2.1 k4 (fun c17 k4 => ?_) fun c17 k4 => ?_
    ·refine Ra hl hf ?_
     rintro g18 s r hl hf
     obtain rfl := oK k4
     exact ⟨rfl, r, hl, hf⟩
    refine Ra hl hf ?_
    rintro g19 s r hl hf
    obtain rfl := oK k4
    exact ⟨by decide, ⟨rfl, ⟨Or.inr rfl, hl, AH (AE r.1)⟩⟩⟩
   obtain rfl := oK k2
   exact ⟨by decide, ⟨rfl, trivial, hl, hf⟩⟩
  intro j s hq
  rcases o7 with w6 | _
  ·try dsimp only at k1 hq
   obtain ⟨rfl, hq⟩ := hq
   cases oK k1
   exact hq
  try dsimp only at k1 hq
  obtain ⟨rfl, -, hl, hf⟩ := hq
  refine Ra hl hf ?_
  rintro g20 s r hl hf
  cases oK k1
  exact ⟨Or.inr rfl, hl, AH (AE r.1)⟩
 refine Ra hl hf ?_
 rintro g21 s r hl hf
 cases oK k0
 exact ⟨Or.inr rfl, hl, AH (AE r.1)⟩
def Z0 := fun a0 a1 => Cq.mk (@Ys a0 a1)
theorem hQ {a0 : BenchBook} {a1 : (Sl Int)} {a2 : (Sl AA)} {r : (Bool × Int)} (k0 : KT a0 a1 a2 = some r) : Fin zL 13 [Enc.enc a0, Enc.enc a1, Enc.enc a2] (Enc.enc r) := by
 unfold KT at k0; replace k0 := kq k0
 refine fnN IU ng ?_
 rintro low s ⟨r0, r1, r2, -⟩ hl hf
 have q48 := @EF
 have q49 := @EN
 have q50 := @J4
 have q51 := @Z0
 refine Ra hl hf ?_
 rintro g1 s ⟨r1, r3, r5, r6, r7, -⟩ hl hf
 refine Ra hl hf ?_
 rintro g2 s ⟨r1, r3, r5, r6, r7, r8, -⟩ hl hf
 refine Ra hl hf ?_
 rintro g3 s ⟨r1, r3, r5, r6, r7, r8, r14, r15, r16, -⟩ hl hf
 refine blk ?_
 obtain ⟨o7, l8, k1⟩ := bnk k0
 refine AY (f := Eu a0 a1) (E := fun (x : Bool × Int) s => CH [E_ 1 a1, C_ 3 g1 a0, (5, .box (g1 + 1) [.d (Enc.enc a2)]), (6, .box (g1 + 1 + 1) [.d (.bool false)]), N_ 7 (g1 + 1 + 1 + 1) 0, B_ 8 x.1, E_ 14 a1, I_ 15 a1.len, I_ 16 x.2] s ∧ s.low = low ∧ NoB IU s) (Q := fun (y6 : Bool) j s => j = .exit 0 ∧ CH [E_ 1 a1, C_ 3 g1 a0, (5, .box (g1 + 1) [.d (Enc.enc a2)]), (6, .box (g1 + 1 + 1) [.d (.bool false)]), N_ 7 (g1 + 1 + 1 + 1) 0, B_ 8 y6] s ∧ s.low = low ∧ NoB IU s) l8 ?_ ⟨⟨r1, r3, r5, r6, r7, r8, r14, r15, r16, trivial⟩, hl, hf⟩ ?_
 ·rintro ⟨x4, x5⟩ s out ⟨⟨r1, r3, r5, r6, r7, r8, r14, r15, r16, -⟩, hl, hf⟩ k2
  dsimp only at r8 r16
  simp only [Eu] at k2
  refine Ra hl hf ?_
  rintro g9 s ⟨r1, r3, r5, r6, r7, r8, r14, r15, r16, r17, -⟩ hl hf
  refine Bn r17 k2 (fun c10 k2 => ?_) fun c10 k2 => ?_
  ·refine blk ?_
   obtain ⟨v11, h12, k3⟩ := bnk k2
   refine Ra hl hf ?_
   rintro g13 s ⟨r1, r3, r5, r6, r7, r8, r9, r10, r14, r15, r16, -⟩ hl hf
   obtain ⟨o19, q, k4⟩ := bnk k3
   refine Rq (fun g21 => [B_ 8 o19]) hl hf q ?_
   rintro g21 s ⟨r1, r3, r5, r6, r7, r8, r14, r15, r16, -⟩ hl hf
   refine Ra hl hf ?_
   rintro g22 s ⟨r1, r3, r5, r6, r7, r8, r14, r15, r16, -⟩ hl hf
   obtain rfl := oK k4
   exact ⟨rfl, ⟨r1, r3, r5, r6, r7, r8, r14, r15, r16, trivial⟩, hl, hf⟩
  obtain rfl := oK k2
  exact ⟨by decide, ⟨rfl, ⟨r1, r3, r5, r6, r7, r8, trivial⟩, hl, hf⟩⟩
 intro j s hq
 obtain ⟨y6, rfl⟩ : ∃ x, x = o7 := ⟨_, rfl⟩
 try dsimp only at k1 hq
 obtain ⟨rfl, ⟨r1, r3, r5, r6, r7, r8, -⟩, hl, hf⟩ := hq
 obtain ⟨v23, h24, k5⟩ := bnk k1
 refine Ra hl hf ?_
 rintro g25 s ⟨r1, r5, r6, r7, r11, r12, -⟩ hl hf
 refine Ra hl hf ?_
 rintro g26 s ⟨r1, r5, r6, r7, r11, r12, r48, -⟩ hl hf
 refine JV r48 k5 (fun c27 k5 => ?_) fun c27 k5 => ?_
 ·obtain ⟨v28, h29, k6⟩ := bnk k5
  have q31 := Fin.call (LP := zL) (ds := [Enc.enc v23.1, Enc.enc v28]) (fun low => Ia (low := low) v23.1 v28)
  refine Ra hl hf ?_
  rintro g30 s ⟨r5, r6, r7, r54, -⟩ hl hf
  refine blk ?_
  obtain ⟨⟨_, o44⟩, l45, k9⟩ := bnk k6
  refine Run.rng (B := IU) (base := low) (n := 69) (a := []) (b := [.d (.fptr (Enc.cells v23.1) 0), .d (.fptr [Enc.enc v28] 0)]) (jm := fun (x : Unit) => match x with | _ => Jmp.ret) (l := fun (o : (Unit) ⊕ (Unit)) => match o with | .inl _ => [(5, .box (g1 + 1) [.d (Enc.enc a2)]), (6, .box (g1 + 1 + 1) [.d (.bool false)]), (7, .box (g1 + 1 + 1 + 1) [.d (.int 0)]), (54, .v (.d (.fn 69 [] [.fptr (Enc.cells v23.1) 0, .fptr [Enc.enc v28] 0])))] | .inr _ => [(5, .box (g1 + 1) [.d (Enc.enc a2)]), (6, .box (g1 + 1 + 1) [.d (.bool true)]), (7, .box (g1 + 1 + 1 + 1) [.d (.int 0)]), (54, .v (.d (.fn 69 [] [.fptr (Enc.cells v23.1) 0, .fptr [Enc.enc v28] 0])))]) (t0 := ()) (st' := o44) (v := .d (.tup [])) hl hf (by simp only [Oz, KH, FT, r54, Hv, M4, SQ, WX, List.map_cons, List.map_nil]) ⟨r5, r6, r7, r54, trivial⟩ ?_ ?_
  ·intro g low1 hc
   refine FW (R := u0 IU low g [55] _ _ (fun (x : Unit) => match x with | _ => Jmp.ret) (fun (o : (Unit) ⊕ (Unit)) => match o with | .inl _ => [(5, .box (g1 + 1) [.d (Enc.enc a2)]), (6, .box (g1 + 1 + 1) [.d (.bool false)]), (7, .box (g1 + 1 + 1 + 1) [.d (.int 0)]), (54, .v (.d (.fn 69 [] [.fptr (Enc.cells v23.1) 0, .fptr [Enc.enc v28] 0])))] | .inr _ => [(5, .box (g1 + 1) [.d (Enc.enc a2)]), (6, .box (g1 + 1 + 1) [.d (.bool true)]), (7, .box (g1 + 1 + 1 + 1) [.d (.int 0)]), (54, .v (.d (.fn 69 [] [.fptr (Enc.cells v23.1) 0, .fptr [Enc.enc v28] 0])))])) (fun st l h => Wb st l h) ?_  hc l45
   refine Il (by decide) (fun _ => rfl) ?_
   rintro a32 _ out k7 e above low0 lw lp s hr ha hr0 hBB hl hf
   obtain ⟨e5, e6, e7, e54, -⟩ := hr0
   have r5 : s.raw 5 = some (.v (.ptr low.length 5 (g1 + 1) 0)) := hr 5 _ rfl e5
   have r6 : s.raw 6 = some (.v (.ptr low.length 6 (g1 + 1 + 1) 0)) := hr 6 _ rfl e6
   have r7 : s.raw 7 = some (.v (.ptr low.length 7 (g1 + 1 + 1 + 1) 0)) := hr 7 _ rfl e7
   have r54 : s.raw 54 = some (.v (.d (.fn 69 [] [.fptr (Enc.cells v23.1) 0, .fptr [Enc.enc v28] 0]))) := hr 54 _ rfl e54
   obtain ⟨r55, -⟩ := ha
   unfold K6 at k7
   replace k7 := kq k7
   refine Nx.run <| Ra hl hf ?_
   rintro g33 s ⟨r5, r6, r7, r13, -⟩ hl hf
   refine ⟨rfl, hl, ?_⟩
   intro s2 hraw hl
   replace r5 := (hraw 5).trans r5
   replace r6 := (hraw 6).trans r6
   replace r7 := (hraw 7).trans r7
   replace r13 := (hraw 13).trans r13
   replace hf := NoB.congr hf hraw
   clear hraw
   obtain ⟨s, hs⟩ : ∃ q, q = s2 := ⟨_, rfl⟩
   rw [← hs] at r5 r6 r7 r13 hl hf
   rw [← hs]
   clear hs s2
   have hB := hBB
   obtain ⟨m5, m6, m7, m54, -⟩ := Im.all hB
   have hlt : low.length < lw.length := by have := Im.len hB; omega
   refine Nx.run <| blk ?_
   obtain ⟨v34, h35, k8⟩ := bnk k7
   have q37 := @JC
   have q38 := @HK
   have q39 := @F4
   have q40 := @Kt
   have q41 := @Kw
   have q42 := @Jl
   refine Ra hl hf ?_
   rintro g36 s ⟨r6, r7, r58, -⟩ hl hf
   refine Bn r58 k8 (fun c43 k8 => ?_) fun c43 k8 => ?_
   ·refine regS (B := IU) (low := lw) (Q := fun q => q = (CQ (CQ lw low.length 6 (.box (g1 + 1 + 1) [.d (.bool true)])) low.length 7 (.box (g1 + 1 + 1 + 1) [.d (.int 0)]))) [] hl hf ?_ ?_
    ·simp only [rs, JC, HK, F4, Kt, Kw, hl, nob hf, r6, r7, r58, m5, m6, m7, m54, hlt, (M8 (v := .bool true)), (M8 (v := .int 0)), reduceCtorEq, Nat.reduceEqDiff, Nat.reduceAdd]
    rintro s - hl hf
    replace hl : s.low = (CQ (CQ lw low.length 6 (.box (g1 + 1 + 1) [.d (.bool true)])) low.length 7 (.box (g1 + 1 + 1 + 1) [.d (.int 0)])) := hl
    replace hB := Im.set (l' := [(5, .box (g1 + 1) [.d (Enc.enc a2)]), (6, .box (g1 + 1 + 1) [.d (.bool true)]), (7, .box (g1 + 1 + 1 + 1) [.d (.int 0)]), (54, .v (.d (.fn 69 [] [.fptr (Enc.cells v23.1) 0, .fptr [Enc.enc v28] 0])))]) hB 6 _ rfl (fun s ⟨q5, q6, q7, q54, _⟩ => ⟨(by rw [Ah, if_neg (by decide)]; exact q5), (by rw [Ah, if_pos rfl]), (by rw [Ah, if_neg (by decide)]; exact q7), (by rw [Ah, if_neg (by decide)]; exact q54), trivial⟩)
    replace hB := Im.set (l' := [(5, .box (g1 + 1) [.d (Enc.enc a2)]), (6, .box (g1 + 1 + 1) [.d (.bool true)]), (7, .box (g1 + 1 + 1 + 1) [.d (.int 0)]), (54, .v (.d (.fn 69 [] [.fptr (Enc.cells v23.1) 0, .fptr [Enc.enc v28] 0])))]) hB 7 _ rfl (fun s ⟨q5, q6, q7, q54, _⟩ => ⟨(by rw [Ah, if_neg (by decide)]; exact q5), (by rw [Ah, if_neg (by decide)]; exact q6), (by rw [Ah, if_pos rfl]), (by rw [Ah, if_neg (by decide)]; exact q54), trivial⟩)
    obtain ⟨lw, hlow⟩ : ∃ q, q = (CQ (CQ lw low.length 6 (.box (g1 + 1 + 1) [.d (.bool true)])) low.length 7 (.box (g1 + 1 + 1 + 1) [.d (.int 0)])) := ⟨_, rfl⟩
    rw [← hlow] at hl hB
    obtain ⟨m5, m6, m7, m54, -⟩ := Im.all hB
    have hlt : low.length < lw.length := by have := Im.len hB; omega
    obtain rfl := oK k8
    exact ⟨rfl, rfl, (show Jmp.ret ≠ Jmp.normal by decide), by rw [hl]; exact OW hB (fun s ⟨q5, q6, q7, q54, _⟩ => ⟨q5, q6, q7, q54, trivial⟩)⟩
   obtain rfl := oK k8
   exact ⟨rfl, rfl, by rw [hl]; exact OW hB (fun s ⟨q5, q6, q7, q54, _⟩ => ⟨q5, q6, q7, q54, trivial⟩)⟩
  ·intro s hl hf hq
   rcases o44 with _ | _
   ·try dsimp only at k9 hq
    obtain ⟨r5, r6, r7, r54, -⟩ := hq
    refine qq <| Ra hl hf ?_
    rintro g46 s ⟨r6, r7, -⟩ hl hf
    cases oK k9
    exact ⟨Or.inr rfl, hl, Av (Hw r6) (Hw r7)⟩
   ·try dsimp only at k9 hq
    obtain ⟨r5, r6, r7, r54, -⟩ := hq
    refine qq ?_
    cases oK k9
    exact ⟨Or.inr rfl, hl, Av (Hw r6) (Hw r7)⟩
 refine Ra hl hf ?_
 rintro g47 s ⟨r6, r7, -⟩ hl hf
 cases oK k5
 exact ⟨Or.inr rfl, hl, Av (Hw r6) (Hw r7)⟩
def Yy := fun a0 a1 a2 => Cq.mk (@hQ a0 a1 a2)
theorem WS {a0 : (Sl Int)} {a1 : Int} {r : Bool} (k0 : Ho a0 a1 = some r) : Fin zL 43 [Enc.enc a0, .int a1] (.bool r) := by
 unfold Ho at k0; replace k0 := kq k0
 refine fnN KW PG ?_
 rintro low s r hl hf
 have q22 := @Dj
 refine Ra hl hf ?_
 rintro g1 s r hl hf
 refine Ra hl hf ?_
 rintro g2 s r hl hf
 refine blk ?_
 obtain ⟨o5, l6, k1⟩ := bnk k0
 refine AY (f := CJ a0 a1) (E := fun (x : Int) s => BG [E_ 0 a0, I_ 1 a1, I_ 5 x] s ∧ s.low = low ∧ NoB KW s) (Q := fun (o : ((Bool) ⊕ (Unit))) j s => match o with | .inl w4 => j = .ret ∧ FnJ PG.1 low (.d (.bool w4)) .ret s | .inr _ => j = .exit 0 ∧ BG [] s ∧ s.low = low ∧ NoB KW s) l6 ?_ ⟨r, hl, hf⟩ ?_
 ·rintro x3 s out ⟨r, hl, hf⟩ k2
  unfold CJ at k2
  refine Ra hl hf ?_
  rintro g7 s r hl hf
  refine Bn r.2.2.2.1 k2 (fun c8 k2 => ?_) fun c8 k2 => ?_
  ·refine blk ?_
   obtain ⟨o15, q, k3⟩ := bnk k2
   refine Rq (fun g17 => [B_ 35 o15]) hl hf q ?_
   rintro g17 s r hl hf
   refine Bn r.2.2.2.1 k3 (fun c18 k3 => ?_) fun c18 k3 => ?_
   ·refine Ra hl hf ?_
    rintro g19 s r hl hf
    obtain rfl := oK k3
    exact ⟨by decide, ⟨rfl, ⟨Or.inr rfl, hl, AH (AE r.1)⟩⟩⟩
   refine Ra hl hf ?_
   rintro g20 s r hl hf
   obtain rfl := oK k3
   exact ⟨rfl, r, hl, hf⟩
  obtain rfl := oK k2
  exact ⟨by decide, ⟨rfl, trivial, hl, hf⟩⟩
 intro j s hq
 rcases o5 with w4 | _
 ·try dsimp only at k1 hq
  obtain ⟨rfl, hq⟩ := hq
  cases oK k1
  exact hq
 try dsimp only at k1 hq
 obtain ⟨rfl, -, hl, hf⟩ := hq
 refine Ra hl hf ?_
 rintro g21 s r hl hf
 cases oK k1
 exact ⟨Or.inr rfl, hl, AH (AE r.1)⟩
def Xb := fun a0 a1 => Cq.mk (@WS a0 a1)
theorem bR {a0 : (Sl Int)} {a1 : Int} {r : Int} (k0 : E2 a0 a1 = some r) : Fin zL 74 [Enc.enc a0, .int a1] (.int r) := by
 unfold E2 at k0; replace k0 := kq k0
 refine fnN NN R9 ?_
 rintro low s r hl hf
 refine Ra hl hf ?_
 rintro g1 s r hl hf
 refine Ra hl hf ?_
 rintro g2 s r hl hf
 refine blk ?_
 obtain ⟨o5, l6, k1⟩ := bnk k0
 refine AY (f := B6 a0 a1) (E := fun (x : Int) s => BG [E_ 0 a0, I_ 1 a1, I_ 5 x] s ∧ s.low = low ∧ NoB NN s) (Q := fun (o : ((Int) ⊕ (Unit))) j s => match o with | .inl w4 => j = .ret ∧ FnJ R9.1 low (.d (.int w4)) .ret s | .inr _ => j = .exit 0 ∧ BG [] s ∧ s.low = low ∧ NoB NN s) l6 ?_ ⟨r, hl, hf⟩ ?_
 ·rintro x3 s out ⟨r, hl, hf⟩ k2
  unfold B6 at k2
  refine Ra hl hf ?_
  rintro g7 s r hl hf
  refine Bn r.2.2.2.1 k2 (fun c8 k2 => ?_) fun c8 k2 => ?_
  ·refine blk ?_
   obtain ⟨v9, h10, k3⟩ := bnk k2
   refine Ra hl hf ?_
   rintro g11 s r hl hf
   refine Bn r.2.2.2.1 k3 (fun c12 k3 => ?_) fun c12 k3 => ?_
   ·refine Ra hl hf ?_
    rintro g13 s r hl hf
    obtain rfl := oK k3
    exact ⟨by decide, ⟨rfl, ⟨Or.inr rfl, hl, AH (AE r.1)⟩⟩⟩
   refine Ra hl hf ?_
   rintro g14 s r hl hf
   obtain rfl := oK k3
   exact ⟨rfl, r, hl, hf⟩
  obtain rfl := oK k2
  exact ⟨by decide, ⟨rfl, trivial, hl, hf⟩⟩
 intro j s hq
 rcases o5 with w4 | _
 ·try dsimp only at k1 hq
  obtain ⟨rfl, hq⟩ := hq
  cases oK k1
  exact hq
 try dsimp only at k1 hq
 obtain ⟨rfl, -, hl, hf⟩ := hq
 refine Ra hl hf ?_
 rintro g15 s r hl hf
 cases oK k1
 exact ⟨Or.inr rfl, hl, AH (AE r.1)⟩
def TW := fun a0 a1 => Cq.mk (@bR a0 a1)
theorem V8 {a0 : (Sl Int)} {a1 : (Sl Int)} {r : Bool} (k0 : E7 a0 a1 = some r) : Fin zL 75 [Enc.enc a0, Enc.enc a1] (.bool r) := by
 unfold E7 at k0; replace k0 := kq k0
 refine fnN KO PT ?_
 rintro low s r hl hf
 refine Ra hl hf ?_
 rintro g1 s r hl hf
 refine Ra hl hf ?_
 rintro g2 s r hl hf
 refine blk ?_
 obtain ⟨o5, l6, k1⟩ := bnk k0
 refine AY (f := BP a0 a1) (E := fun (x : Int) s => BG [E_ 0 a0, E_ 1 a1, I_ 5 x] s ∧ s.low = low ∧ NoB KO s) (Q := fun (o : ((Bool) ⊕ (Unit))) j s => match o with | .inl w4 => j = .ret ∧ FnJ PT.1 low (.d (.bool w4)) .ret s | .inr _ => j = .exit 0 ∧ BG [E_ 0 a0, E_ 1 a1] s ∧ s.low = low ∧ NoB KO s) l6 ?_ ⟨r, hl, hf⟩ ?_
 ·rintro x3 s out ⟨r, hl, hf⟩ k2
  unfold BP at k2
  refine Rx (fun g9 => [B_ 15 ((decide (x3 < a0.len)) && (decide (x3 < a1.len)))]) hl hf ?_
  rintro g9 s r hl hf
  refine Bn r.2.2.2.1 k2 (fun c10 k2 => ?_) fun c10 k2 => ?_
  ·refine blk ?_
   obtain ⟨v11, h12, k3⟩ := bnk k2
   obtain ⟨v13, h14, k4⟩ := bnk k3
   refine Ra hl hf ?_
   rintro g15 s r hl hf
   refine JV r.2.2.2.1 k4 (fun c16 k4 => ?_) fun c16 k4 => ?_
   ·refine Ra hl hf ?_
    rintro g17 s r hl hf
    obtain rfl := oK k4
    exact ⟨rfl, r, hl, hf⟩
   obtain ⟨v18, h19, k5⟩ := bnk k4
   try clear h12
   obtain ⟨v20, h21, k6⟩ := bnk k5
   try clear h14
   refine Ra hl hf ?_
   rintro g22 s r hl hf
   obtain rfl := oK k6
   exact ⟨by decide, ⟨rfl, ⟨Or.inr rfl, hl, AH (AE r.1)⟩⟩⟩
  obtain rfl := oK k2
  exact ⟨by decide, ⟨rfl, ⟨r.1, r.2.1, trivial⟩, hl, hf⟩⟩
 intro j s hq
 rcases o5 with w4 | _
 ·try dsimp only at k1 hq
  obtain ⟨rfl, hq⟩ := hq
  cases oK k1
  exact hq
 try dsimp only at k1 hq
 obtain ⟨rfl, r, hl, hf⟩ := hq
 refine Ra hl hf ?_
 rintro g23 s r hl hf
 cases oK k1
 exact ⟨Or.inr rfl, hl, AH (AE r.1)⟩
def KD := fun a0 a1 => Cq.mk (@V8 a0 a1)
theorem aJ {a0 : BenchBook} {a1 : (Sl AA)} {r : Bool} (k0 : IZ a0 a1 = some r) : Fin zL 76 [Enc.enc a0, Enc.enc a1] (.bool r) := by
 unfold IZ at k0; replace k0 := kq k0
 refine fnN E0 NI ?_
 rintro low s r hl hf
 refine Ra hl hf ?_
 rintro g1 s r hl hf
 refine Ra hl hf ?_
 rintro g2 s r hl hf
 refine blk ?_
 obtain ⟨o5, l6, k1⟩ := bnk k0
 refine AY (f := ER a0 a1) (E := fun (x : Int) s => BG [E_ 1 a1, C_ 2 g1 a0, I_ 5 x] s ∧ s.low = low ∧ NoB E0 s) (Q := fun (o : ((Bool) ⊕ (Unit))) j s => match o with | .inl w4 => j = .ret ∧ FnJ NI.1 low (.d (.bool w4)) .ret s | .inr _ => j = .exit 0 ∧ BG [C_ 2 g1 a0] s ∧ s.low = low ∧ NoB E0 s) l6 ?_ ⟨r, hl, hf⟩ ?_
 ·rintro x3 s out ⟨r, hl, hf⟩ k2
  unfold ER at k2
  refine Ra hl hf ?_
  rintro g7 s r hl hf
  refine Bn r.2.2.2.1 k2 (fun c8 k2 => ?_) fun c8 k2 => ?_
  ·refine blk <| Ra hl hf ?_
   rintro g9 s r hl hf
   refine blk ?_
   obtain ⟨o12, l13, k3⟩ := bnk k2
   refine AY (f := EV a0 a1 x3) (E := fun (x : Int) s => BG [E_ 1 a1, C_ 2 g1 a0, I_ 5 x3, I_ 6 x] s ∧ s.low = low ∧ NoB E0 s) (Q := fun (o : ((Bool) ⊕ (Unit))) j s => match o with | .inl w11 => j = .ret ∧ FnJ NI.1 low (.d (.bool w11)) .ret s | .inr _ => j = .exit 2 ∧ BG [E_ 1 a1, C_ 2 g1 a0, I_ 5 x3] s ∧ s.low = low ∧ NoB E0 s) l13 ?_ ⟨r, hl, hf⟩ ?_
   ·rintro x10 s out ⟨r, hl, hf⟩ k4
    unfold EV at k4
    refine Ra hl hf ?_
    rintro g14 s r hl hf
    refine Bn r.2.2.2.2.1 k4 (fun c15 k4 => ?_) fun c15 k4 => ?_
    ·refine blk <| Ra hl hf ?_
     rintro g16 s r hl hf
     refine Ra hl hf ?_
     rintro g17 s r hl hf
     refine blk ?_
     obtain ⟨o21, l22, k5⟩ := bnk k4
     refine AY (f := FS a0 a1 x3 x10) (E := fun (x : Int × Int) s => BG [E_ 1 a1, C_ 2 g1 a0, I_ 5 x3, I_ 6 x10, I_ 7 x.1, I_ 8 x.2] s ∧ s.low = low ∧ NoB E0 s) (Q := fun (y20 : Int) j s => j = .exit 4 ∧ BG [E_ 1 a1, C_ 2 g1 a0, I_ 5 x3, I_ 6 x10, I_ 7 y20] s ∧ s.low = low ∧ NoB E0 s) l22 ?_ ⟨r, hl, hf⟩ ?_
     ·rintro ⟨x18, x19⟩ s out ⟨r, hl, hf⟩ k6
      dsimp only at r
      simp only [FS] at k6
      refine Ra hl hf ?_
      rintro g23 s r hl hf
      refine Bn r.2.2.2.2.2.2.1 k6 (fun c24 k6 => ?_) fun c24 k6 => ?_
      ·refine blk ?_
       obtain ⟨o30, q, k7⟩ := bnk k6
       refine Rq (fun g32 => [B_ 50 o30]) hl hf q ?_
       rintro g32 s r hl hf
       refine Bn r.2.2.2.2.2.2.1 k7 (fun c33 k7 => ?_) fun c33 k7 => ?_
       ·refine Ra hl hf ?_
        rintro g34 s r hl hf
        refine Ra hl hf ?_
        rintro g35 s r hl hf
        obtain rfl := oK k7
        exact ⟨rfl, r, hl, hf⟩
       refine Ra hl hf ?_
       rintro g36 s r hl hf
       obtain rfl := oK k7
       exact ⟨rfl, r, hl, hf⟩
      obtain rfl := oK k6
      exact ⟨by decide, ⟨rfl, ⟨r.1, r.2.1, r.2.2.1, r.2.2.2.1, r.2.2.2.2.1, trivial⟩, hl, hf⟩⟩
     intro j s hq
     obtain ⟨y20, rfl⟩ : ∃ x, x = o21 := ⟨_, rfl⟩
     try dsimp only at k5 hq
     obtain ⟨rfl, r, hl, hf⟩ := hq
     refine Ra hl hf ?_
     rintro g37 s r hl hf
     refine Bn r.2.2.2.2.1 k5 (fun c38 k5 => ?_) fun c38 k5 => ?_
     ·refine Ra hl hf ?_
      rintro g39 s r hl hf
      obtain rfl := oK k5
      exact ⟨by decide, ⟨rfl, ⟨Or.inr rfl, hl, AH (AE r.1)⟩⟩⟩
     refine Ra hl hf ?_
     rintro g40 s r hl hf
     obtain rfl := oK k5
     exact ⟨rfl, r, hl, hf⟩
    obtain rfl := oK k4
    exact ⟨by decide, ⟨rfl, ⟨r.1, r.2.1, r.2.2.1, trivial⟩, hl, hf⟩⟩
   intro j s hq
   rcases o12 with w11 | _
   ·try dsimp only at k3 hq
    obtain ⟨rfl, hq⟩ := hq
    obtain rfl := oK k3
    exact ⟨by decide, ⟨rfl, hq⟩⟩
   try dsimp only at k3 hq
   obtain ⟨rfl, r, hl, hf⟩ := hq
   refine Ra hl hf ?_
   rintro g41 s r hl hf
   obtain rfl := oK k3
   exact ⟨rfl, r, hl, hf⟩
  obtain rfl := oK k2
  exact ⟨by decide, ⟨rfl, ⟨r.2.1, trivial⟩, hl, hf⟩⟩
 intro j s hq
 rcases o5 with w4 | _
 ·try dsimp only at k1 hq
  obtain ⟨rfl, hq⟩ := hq
  cases oK k1
  exact hq
 try dsimp only at k1 hq
 obtain ⟨rfl, r, hl, hf⟩ := hq
 refine Ra hl hf ?_
 rintro g42 s r hl hf
 cases oK k1
 exact ⟨Or.inr rfl, hl, AH (AE r.1)⟩
def SC := fun a0 a1 => Cq.mk (@aJ a0 a1)
theorem V4 {a0 : BenchBook} {a1 : (Sl (Sl (Sl Int)))} {a2 : (Sl Int)} {a3 : (Sl AA)} {r : Bool} (k0 : Ht a0 a1 a2 a3 = some r) : Fin zL 44 [Enc.enc a0, Enc.enc a1, Enc.enc a2, Enc.enc a3] (.bool r) := by
 unfold Ht at k0; replace k0 := kq k0
 refine fnN BU F9 ?_
 rintro low s r hl hf
 have q103 := @KD
 have q104 := @TW
 have q105 := @Qd
 have q106 := @SC
 refine Ra hl hf ?_
 rintro g1 s r hl hf
 refine Ra hl hf ?_
 rintro g2 s r hl hf
 refine blk ?_
 obtain ⟨o5, l6, k1⟩ := bnk k0
 refine AY (f := CM a0 a1 a2 a3) (E := fun (x : Int) s => BG [E_ 1 a1, E_ 2 a2, E_ 3 a3, C_ 4 g1 a0, I_ 9 x] s ∧ s.low = low ∧ NoB BU s) (Q := fun (o : ((Bool) ⊕ (Unit))) j s => match o with | .inl w4 => j = .ret ∧ FnJ F9.1 low (.d (.bool w4)) .ret s | .inr _ => j = .exit 0 ∧ BG [E_ 2 a2, E_ 3 a3, C_ 4 g1 a0] s ∧ s.low = low ∧ NoB BU s) l6 ?_ ⟨r, hl, hf⟩ ?_
 ·rintro x3 s out ⟨r, hl, hf⟩ k2
  unfold CM at k2
  refine Ra hl hf ?_
  rintro g7 s r hl hf
  refine Bn r.2.2.2.2.2.1 k2 (fun c8 k2 => ?_) fun c8 k2 => ?_
  ·refine blk ?_
   obtain ⟨v9, h10, k3⟩ := bnk k2
   refine Ra hl hf ?_
   rintro g11 s r hl hf
   obtain ⟨o24, q, k4⟩ := bnk k3
   refine Rq (fun g26 => [B_ 55 o24]) hl hf q ?_
   rintro g26 s r hl hf
   refine Bn r.2.2.2.2.2.2.1 k4 (fun c27 k4 => ?_) fun c27 k4 => ?_
   ·refine Ra hl hf ?_
    rintro g28 s r hl hf
    obtain rfl := oK k4
    exact ⟨by decide, ⟨rfl, ⟨Or.inr rfl, hl, AH (AE r.1)⟩⟩⟩
   refine Ra hl hf ?_
   rintro g29 s r hl hf
   refine blk ?_
   obtain ⟨o32, l33, k5⟩ := bnk k4
   refine AY (f := C7 a3 x3 v9) (E := fun (x : Int) s => BG [E_ 1 a1, E_ 2 a2, E_ 3 a3, C_ 4 g1 a0, I_ 9 x3, C_ 10 (g11 + 1 + 1 + 1 + 1) v9, I_ 11 x] s ∧ s.low = low ∧ NoB BU s) (Q := fun (o : ((Bool) ⊕ (Unit))) j s => match o with | .inl w31 => j = .ret ∧ FnJ F9.1 low (.d (.bool w31)) .ret s | .inr _ => j = .exit 2 ∧ BG [E_ 1 a1, E_ 2 a2, E_ 3 a3, C_ 4 g1 a0, I_ 9 x3, C_ 10 (g11 + 1 + 1 + 1 + 1) v9] s ∧ s.low = low ∧ NoB BU s) l33 ?_ ⟨r, hl, hf⟩ ?_
   ·rintro x30 s out ⟨r, hl, hf⟩ k6
    unfold C7 at k6
    refine Ra hl hf ?_
    rintro g34 s r hl hf
    refine Bn r.2.2.2.2.2.2.2.1 k6 (fun c35 k6 => ?_) fun c35 k6 => ?_
    ·refine blk ?_
     obtain ⟨v36, h37, k7⟩ := bnk k6
     refine Ra hl hf ?_
     rintro g38 s r hl hf
     obtain ⟨o43, q, k8⟩ := bnk k7
     refine Rq (fun g45 => [B_ 94 o43]) hl hf q ?_
     rintro g45 s r hl hf
     refine Bn r.2.2.2.2.2.2.2.1 k8 (fun c46 k8 => ?_) fun c46 k8 => ?_
     ·refine Ra hl hf ?_
      rintro g47 s r hl hf
      obtain rfl := oK k8
      exact ⟨by decide, ⟨rfl, ⟨Or.inr rfl, hl, AH (AE r.1)⟩⟩⟩
     refine Ra hl hf ?_
     rintro g48 s r hl hf
     obtain rfl := oK k8
     exact ⟨rfl, r, hl, hf⟩
    obtain rfl := oK k6
    exact ⟨by decide, ⟨rfl, ⟨r.1, r.2.1, r.2.2.1, r.2.2.2.1, r.2.2.2.2.1, r.2.2.2.2.2.1, trivial⟩, hl, hf⟩⟩
   intro j s hq
   rcases o32 with w31 | _
   ·try dsimp only at k5 hq
    obtain ⟨rfl, hq⟩ := hq
    obtain rfl := oK k5
    exact ⟨by decide, ⟨rfl, hq⟩⟩
   try dsimp only at k5 hq
   obtain ⟨rfl, r, hl, hf⟩ := hq
   refine Ra hl hf ?_
   rintro g49 s r hl hf
   obtain rfl := oK k5
   exact ⟨rfl, r, hl, hf⟩
  obtain rfl := oK k2
  exact ⟨by decide, ⟨rfl, ⟨r.2.1, r.2.2.1, r.2.2.2.1, trivial⟩, hl, hf⟩⟩
 intro j s hq
 rcases o5 with w4 | _
 ·try dsimp only at k1 hq
  obtain ⟨rfl, hq⟩ := hq
  cases oK k1
  exact hq
 try dsimp only at k1 hq
 obtain ⟨rfl, r, hl, hf⟩ := hq
 refine Ra hl hf ?_
 rintro g50 s r hl hf
 refine blk ?_
 obtain ⟨o53, l54, k9⟩ := bnk k1
 refine AY (f := DF a0 a2 a3) (E := fun (x : Int) s => BG [E_ 2 a2, E_ 3 a3, C_ 4 g1 a0, I_ 13 x] s ∧ s.low = low ∧ NoB BU s) (Q := fun (o : ((Bool) ⊕ (Unit))) j s => match o with | .inl w52 => j = .ret ∧ FnJ F9.1 low (.d (.bool w52)) .ret s | .inr _ => j = .exit 4 ∧ BG [E_ 3 a3, C_ 4 g1 a0] s ∧ s.low = low ∧ NoB BU s) l54 ?_ ⟨r, hl, hf⟩ ?_
 ·rintro x51 s out ⟨r, hl, hf⟩ k10
  unfold DF at k10
  refine Ra hl hf ?_
  rintro g55 s r hl hf
  refine Bn r.2.2.2.2.1 k10 (fun c56 k10 => ?_) fun c56 k10 => ?_
  ·refine blk <| Ra hl hf ?_
   rintro g57 s r hl hf
   refine blk ?_
   obtain ⟨o60, l61, k11⟩ := bnk k10
   refine AY (f := DD a0 a2 a3 x51) (E := fun (x : Int) s => BG [E_ 2 a2, E_ 3 a3, C_ 4 g1 a0, I_ 13 x51, I_ 14 x] s ∧ s.low = low ∧ NoB BU s) (Q := fun (o : ((Bool) ⊕ (Unit))) j s => match o with | .inl w59 => j = .ret ∧ FnJ F9.1 low (.d (.bool w59)) .ret s | .inr _ => j = .exit 6 ∧ BG [E_ 2 a2, E_ 3 a3, C_ 4 g1 a0, I_ 13 x51] s ∧ s.low = low ∧ NoB BU s) l61 ?_ ⟨r, hl, hf⟩ ?_
   ·rintro x58 s out ⟨r, hl, hf⟩ k12
    unfold DD at k12
    obtain ⟨v62, h63, k13⟩ := bnk k12
    obtain ⟨v64, h65, k14⟩ := bnk k13
    refine Ra hl hf ?_
    rintro g66 s r hl hf
    refine Bn r.2.2.2.2.2.1 k14 (fun c67 k14 => ?_) fun c67 k14 => ?_
    ·refine blk <| Ra hl hf ?_
     rintro g68 s r hl hf
     refine Ra hl hf ?_
     rintro g69 s r hl hf
     refine blk ?_
     obtain ⟨o73, l74, k15⟩ := bnk k14
     refine AY (f := D9 a2 a3 x51 x58) (E := fun (x : Int × Int) s => BG [E_ 2 a2, E_ 3 a3, C_ 4 g1 a0, I_ 13 x51, I_ 14 x58, I_ 15 x.1, I_ 16 x.2] s ∧ s.low = low ∧ NoB BU s) (Q := fun (y72 : Int) j s => j = .exit 8 ∧ BG [E_ 2 a2, E_ 3 a3, C_ 4 g1 a0, I_ 13 x51, I_ 14 x58, I_ 15 y72] s ∧ s.low = low ∧ NoB BU s) l74 ?_ ⟨r, hl, hf⟩ ?_
     ·rintro ⟨x70, x71⟩ s out ⟨r, hl, hf⟩ k16
      dsimp only at r
      simp only [D9] at k16
      refine Ra hl hf ?_
      rintro g75 s r hl hf
      refine Bn r.2.2.2.2.2.2.2.1 k16 (fun c76 k16 => ?_) fun c76 k16 => ?_
      ·refine blk ?_
       obtain ⟨o82, q, k17⟩ := bnk k16
       try clear h63
       refine Rq (fun g84 => [B_ 139 o82]) hl hf q ?_
       rintro g84 s r hl hf
       refine Bn r.2.2.2.2.2.2.2.1 k17 (fun c85 k17 => ?_) fun c85 k17 => ?_
       ·refine Ra hl hf ?_
        rintro g86 s r hl hf
        refine Ra hl hf ?_
        rintro g87 s r hl hf
        obtain rfl := oK k17
        exact ⟨rfl, r, hl, hf⟩
       refine Ra hl hf ?_
       rintro g88 s r hl hf
       obtain rfl := oK k17
       exact ⟨rfl, r, hl, hf⟩
      obtain rfl := oK k16
      exact ⟨by decide, ⟨rfl, ⟨r.1, r.2.1, r.2.2.1, r.2.2.2.1, r.2.2.2.2.1, r.2.2.2.2.2.1, trivial⟩, hl, hf⟩⟩
     intro j s hq
     obtain ⟨y72, rfl⟩ : ∃ x, x = o73 := ⟨_, rfl⟩
     try dsimp only at k15 hq
     obtain ⟨rfl, r, hl, hf⟩ := hq
     obtain ⟨v89, h90, k18⟩ := bnk k15
     try clear h63
     obtain ⟨v91, h92, k19⟩ := bnk k18
     obtain ⟨v93, h94, k20⟩ := bnk k19
     refine Ra hl hf ?_
     rintro g95 s r hl hf
     refine JV r.2.2.2.2.2.1 k20 (fun c96 k20 => ?_) fun c96 k20 => ?_
     ·refine Ra hl hf ?_
      rintro g97 s r hl hf
      obtain rfl := oK k20
      exact ⟨rfl, r, hl, hf⟩
     refine Ra hl hf ?_
     rintro g98 s r hl hf
     obtain rfl := oK k20
     exact ⟨by decide, ⟨rfl, ⟨Or.inr rfl, hl, AH (AE r.1)⟩⟩⟩
    obtain rfl := oK k14
    exact ⟨by decide, ⟨rfl, ⟨r.1, r.2.1, r.2.2.1, r.2.2.2.1, trivial⟩, hl, hf⟩⟩
   intro j s hq
   rcases o60 with w59 | _
   ·try dsimp only at k11 hq
    obtain ⟨rfl, hq⟩ := hq
    obtain rfl := oK k11
    exact ⟨by decide, ⟨rfl, hq⟩⟩
   try dsimp only at k11 hq
   obtain ⟨rfl, r, hl, hf⟩ := hq
   refine Ra hl hf ?_
   rintro g99 s r hl hf
   obtain rfl := oK k11
   exact ⟨rfl, r, hl, hf⟩
  obtain rfl := oK k10
  exact ⟨by decide, ⟨rfl, ⟨r.2.1, r.2.2.1, trivial⟩, hl, hf⟩⟩
 intro j s hq
 rcases o53 with w52 | _
 ·try dsimp only at k9 hq
  obtain ⟨rfl, hq⟩ := hq
  cases oK k9
  exact hq
 try dsimp only at k9 hq
 obtain ⟨rfl, r, hl, hf⟩ := hq
 obtain ⟨v100, h101, k21⟩ := bnk k9
 refine Ra hl hf ?_
 rintro g102 s r hl hf
 cases oK k21
 exact ⟨Or.inr rfl, hl, AH (AE r.1)⟩
def ZO := fun a0 a1 a2 a3 => Cq.mk (@V4 a0 a1 a2 a3)
theorem ik {a0 : BenchBook} {a1 : (Sl Int)} {a2 : (Sl AA)} {r : (Bool × Int)} (k0 : MO a0 a1 a2 = some r) : Fin zL 14 [Enc.enc a0, Enc.enc a1, Enc.enc a2] (Enc.enc r) := by
 unfold MO at k0; replace k0 := kq k0
 refine fnN mV nS ?_
 rintro low s r hl hf
 have q15 := @Xb
 have q16 := @Eo
 have q17 := @EC
 have q18 := @ZO
 refine Ra hl hf ?_
 rintro g1 s r hl hf
 obtain ⟨v2, h3, k1⟩ := bnk k0
 obtain ⟨v4, h5, k2⟩ := bnk k1
 refine Ra hl hf ?_
 rintro g6 s r hl hf
 refine Ra hl hf ?_
 rintro g7 s r hl hf
 refine JV r.2.2.2.2.1 k2 (fun c8 k2 => ?_) fun c8 k2 => ?_
 ·obtain ⟨v9, h10, k3⟩ := bnk k2
  obtain ⟨v11, h12, k4⟩ := bnk k3
  refine Ra hl hf ?_
  rintro g13 s r hl hf
  cases oK k4
  exact ⟨Or.inr rfl, hl, Av (AE r.1) (AE r.2.1)⟩
 refine Ra hl hf ?_
 rintro g14 s r hl hf
 cases oK k2
 exact ⟨Or.inr rfl, hl, Av (AE r.1) (AE r.2.1)⟩
def nH := fun a0 a1 a2 => Cq.mk (@ik a0 a1 a2)
theorem Zg (a0 : Int) (a1 : Int) : Fin zL 106 [.int a0, .int a1] (Enc.enc (EA a0 a1)) := by
 refine fnN bh bW ?_
 rintro low s r hl hf
 have q2 := @xH
 refine Ra hl hf ?_
 rintro g1 s r hl hf
 have q4 := @Vf
 refine Ra hl hf ?_
 rintro g3 s r hl hf
 exact ⟨Or.inr rfl, hl, AH (Cm r.1 rfl)⟩
def QR := fun a0 a1 => (Zg a0 a1).call
theorem dn (a0 : Int) : Fin zL 107 [.int a0] (Enc.enc (Po a0)) := by
 refine fnN j9 ia ?_
 rintro low s r hl hf
 have q2 := @xH
 refine Ra hl hf ?_
 rintro g1 s r hl hf
 have q4 := @Vf
 refine Ra hl hf ?_
 rintro g3 s r hl hf
 exact ⟨Or.inr rfl, hl, AH (Cm r.1 rfl)⟩
def lM := fun a0 => (dn a0).call
theorem YF (a0 : (Sl AN)) : Fin zL 95 [Enc.enc a0] (Enc.enc (Ut a0)) := by
 refine fnN bF ax ?_
 rintro low s r hl hf
 have q4 := @QR
 have q5 := @lM
 have q2 := @mW
 refine Ra hl hf ?_
 rintro g1 s r hl hf
 refine Ra hl hf ?_
 rintro g3 s r hl hf
 exact ⟨Or.inr rfl, hl, AH (Cm r.1 rfl)⟩
def bV := fun a0 => (YF a0).call
theorem hU (a0 : Int) (a1 : Int) : Fin zL 96 [.int a0, .int a1] (Enc.enc (OV a0 a1)) := by
 refine fnN nK lr ?_
 rintro low s r hl hf
 have q4 := @QR
 have q2 := @nk
 refine Ra hl hf ?_
 rintro g1 s r hl hf
 refine Ra hl hf ?_
 rintro g3 s r hl hf
 exact ⟨Or.inr rfl, hl, AH (Cm r.1 rfl)⟩
def nM := fun a0 a1 => (hU a0 a1).call
theorem Jg (a0 : Int) (a1 : Int) (a2 : (Sl AN)) : Fin zL 77 [.int a0, .int a1, Enc.enc a2] (Enc.enc (Pz a0 a1 a2)) := by
 refine fnN iE lH ?_
 rintro low s r hl hf
 have q4 := @nM
 have q5 := @bV
 have q2 := @Nw
 refine Ra hl hf ?_
 rintro g1 s r hl hf
 refine Ra hl hf ?_
 rintro g3 s r hl hf
 exact ⟨Or.inr rfl, hl, AH (Cm r.1 rfl)⟩
def wq := fun a0 a1 a2 => (Jg a0 a1 a2).call
theorem hO : Fin zL 45 [] (Enc.enc (CB)) := by
 refine fnN lx mt ?_
 rintro low s - hl hf
 have q2 := @Nw
 refine Ra hl hf ?_
 rintro g1 s r hl hf
 have q4 := Fin.call (LP := zL) (ds := [.int 1, .int 20, .nils]) (Jg 1 20 (Sl.nil : (Sl AN)))
 refine Ra hl hf ?_
 rintro g3 s r hl hf
 exact ⟨Or.inr rfl, hl, AH (Cm r.1 rfl)⟩
def l3 := hO.call
theorem fE : Fin zL 46 [] (Enc.enc (GV)) := by
 refine fnN jQ iI ?_
 rintro low s - hl hf
 have q2 := @Nw
 refine Ra hl hf ?_
 rintro g1 s r hl hf
 have q4 := Fin.call (LP := zL) (ds := [.int 1, .int 24, .nils]) (Jg 1 24 (Sl.nil : (Sl AN)))
 refine Ra hl hf ?_
 rintro g3 s r hl hf
 exact ⟨Or.inr rfl, hl, AH (Cm r.1 rfl)⟩
def jZ := fE.call
theorem ft (a0 : Int) (a1 : Int) (a2 : Int) : Fin zL 49 [.int a0, .int a1, .int a2] (Enc.enc (CE a0 a1 a2)) := by
 refine fnN kK ke ?_
 rintro low s r hl hf
 have q2 := @mJ
 refine Ra hl hf ?_
 rintro g1 s r hl hf
 have q4 := @Gm
 refine Ra hl hf ?_
 rintro g3 s r hl hf
 exact ⟨Or.inr rfl, hl, AH (Cm r.1 rfl)⟩
def Uu := fun a0 a1 a2 => (ft a0 a1 a2).call
theorem Z8 : Fin zL 47 [] (Enc.enc (HB)) := by
 refine fnN ec eA ?_
 rintro low s - hl hf
 have q3 := @Uu
 refine Ra hl hf ?_
 rintro g1 s - hl hf
 refine Ra hl hf ?_
 rintro g2 s r hl hf
 exact ⟨Or.inr rfl, hl, AH (JI r.1)⟩
def ev := Z8.call
theorem fD : Fin zL 48 [] (Enc.enc (Ij)) := by
 refine fnN j0 kF ?_
 rintro low s - hl hf
 have q2 := @Nw
 refine Ra hl hf ?_
 rintro g1 s r hl hf
 have q4 := Fin.call (LP := zL) (ds := [.int 2, .int 20, .nils]) (Jg 2 20 (Sl.nil : (Sl AN)))
 refine Ra hl hf ?_
 rintro g3 s r hl hf
 exact ⟨Or.inr rfl, hl, AH (Cm r.1 rfl)⟩
def lQ := fD.call
theorem Fj {a0 : AC} {a1 : (Sl Int)} {r : (Sl Int)} (k0 : Ce a0 a1 = some r) : Fin zL 50 [Enc.enc a0, Enc.enc a1] (Enc.enc r) := by
 unfold Ce at k0; replace k0 := kq k0
 refine fnN IJ UM ?_
 rintro low s r hl hf
 have q23 := @IP
 refine Ra hl hf ?_
 rintro g1 s r hl hf
 refine Ra hl hf ?_
 rintro g2 s r hl hf
 refine Ra hl hf ?_
 rintro g3 s r hl hf
 refine blk ?_
 obtain ⟨o7, l8, k1⟩ := bnk k0
 refine AY (f := C4 a0 a1) (E := fun (x : (Sl Int) × Int) s => BG [E_ 1 a1, (5, .v (Sl.lv x.1)), I_ 10 a0.BenchBook.Pieces.len, I_ 11 x.2] s ∧ s.low = low ∧ NoB IJ s) (Q := fun (y6 : (Sl Int)) j s => j = .exit 0 ∧ BG [(5, .v (Sl.lv y6))] s ∧ s.low = low ∧ NoB IJ s) l8 ?_ ⟨r, hl, hf⟩ ?_
 ·rintro ⟨x4, x5⟩ s out ⟨r, hl, hf⟩ k2
  dsimp only at r
  simp only [C4] at k2
  refine Ra hl hf ?_
  rintro g9 s r hl hf
  refine Bn r.2.2.2.2.1 k2 (fun c10 k2 => ?_) fun c10 k2 => ?_
  ·refine blk <| Ra hl hf ?_
   rintro g11 s r hl hf
   obtain ⟨v12, h13, k3⟩ := bnk k2
   refine Ra hl hf ?_
   rintro g14 s r hl hf
   refine JV r.2.2.2.2.2.1 k3 (fun c15 k3 => ?_) fun c15 k3 => ?_
   ·refine Ra hl hf ?_
    rintro g16 s r hl hf
    obtain rfl := oK k3
    exact ⟨rfl, r, hl, hf⟩
   obtain ⟨v17, h18, k4⟩ := bnk k3
   have q20 := DZ (sz := 1) (x := x4) (y := (Sl.cold [x5] : Sl Int)) rfl rfl h18
   refine Ra hl hf ?_
   rintro g19 s r hl hf
   refine Ra hl hf ?_
   rintro g21 s r hl hf
   obtain rfl := oK k4
   exact ⟨rfl, r, hl, hf⟩
  obtain rfl := oK k2
  exact ⟨by decide, ⟨rfl, ⟨r.2.1, trivial⟩, hl, hf⟩⟩
 intro j s hq
 obtain ⟨y6, rfl⟩ : ∃ x, x = o7 := ⟨_, rfl⟩
 try dsimp only at k1 hq
 obtain ⟨rfl, r, hl, hf⟩ := hq
 refine Ra hl hf ?_
 rintro g22 s r hl hf
 cases oK k1
 exact ⟨Or.inr rfl, hl, AH (JI r.1)⟩
def UG := fun a0 a1 => Cq.mk (@Fj a0 a1)
theorem eN {a0 : BenchBook} {r : (Int × Int)} (k0 : Js a0 = some r) : Fin zL 16 [Enc.enc a0] (Enc.enc r) := by
 unfold Js at k0; replace k0 := kq k0
 refine fnN K3 iP ?_
 rintro low s ⟨r0, -⟩ hl hf
 have q22 := @EF
 have q23 := @EN
 refine Ra hl hf ?_
 rintro g1 s ⟨r1, r2, r3, -⟩ hl hf
 obtain ⟨v2, h3, k1⟩ := bnk k0
 refine Ra hl hf ?_
 rintro g4 s ⟨r2, r3, r4, r5, -⟩ hl hf
 refine Ra hl hf ?_
 rintro g5 s ⟨r2, r3, r4, r5, r13, -⟩ hl hf
 refine JV r13 k1 (fun c6 k1 => ?_) fun c6 k1 => ?_
 ·refine Ra hl hf ?_
  rintro g7 s ⟨r2, r3, r4, r6, -⟩ hl hf
  obtain ⟨v8, h9, k2⟩ := bnk k1
  obtain ⟨v10, h11, k3⟩ := bnk k2
  have q13 := Fin.call (LP := zL) (ds := [Enc.enc v2.1, .nils]) (Fj h9)
  have q14 := Fin.call (LP := zL) (ds := [Enc.enc v2.1, Enc.enc v10]) (fun low => Ia (low := low) v2.1 v10)
  refine Ra hl hf ?_
  rintro g12 s ⟨r2, r3, r6, r20, -⟩ hl hf
  refine blk ?_
  obtain ⟨⟨_, o17⟩, l18, k5⟩ := bnk k3
  refine Run.rng (B := K3) (base := low) (n := 69) (a := []) (b := [.d (.fptr (Enc.cells v2.1) 0), .d (.fptr [Enc.enc v10] 0)]) (jm := fun (_ : Unit) => Jmp.ret) (l := fun (o : (Int) ⊕ (Unit)) => match o with | .inl x16 => [(2, .v (.d (.int 0))), (3, .v (.d (.int 0))), (6, .box g7 [.d (.int x16)]), (20, .v (.d (.fn 69 [] [.fptr (Enc.cells v2.1) 0, .fptr [Enc.enc v10] 0])))] | .inr _ => []) (t0 := 0) (st' := o17) (v := .d (.tup [])) hl hf (by simp only [Oz, KH, FT, r20, Hv, M4, SQ, WX, List.map_cons, List.map_nil]) ⟨r2, r3, r6, r20, trivial⟩ ?_ ?_
  ·intro g low1 hc
   refine FW (R := u0 K3 low g [21] _ _ (fun (_ : Unit) => Jmp.ret) (fun (o : (Int) ⊕ (Unit)) => match o with | .inl x16 => [(2, .v (.d (.int 0))), (3, .v (.d (.int 0))), (6, .box g7 [.d (.int x16)]), (20, .v (.d (.fn 69 [] [.fptr (Enc.cells v2.1) 0, .fptr [Enc.enc v10] 0])))] | .inr _ => [])) (fun st l h => Wb st l h) ?_  hc l18
   refine Il (by decide) (fun _ => rfl) ?_
   rintro a15 x16 out k4 e above low0 lw lp s hr ha hr0 hBB hl hf
   obtain ⟨e2, e3, e6, e20, -⟩ := hr0
   have r2 : s.raw 2 = some (.v (.d (.int 0))) := hr 2 _ rfl e2
   have r3 : s.raw 3 = some (.v (.d (.int 0))) := hr 3 _ rfl e3
   have r6 : s.raw 6 = some (.v (.ptr low.length 6 g7 0)) := hr 6 _ rfl e6
   have r20 : s.raw 20 = some (.v (.d (.fn 69 [] [.fptr (Enc.cells v2.1) 0, .fptr [Enc.enc v10] 0]))) := hr 20 _ rfl e20
   obtain ⟨r21, -⟩ := ha
   unfold Hl at k4
   replace k4 := kq k4
   refine Nx.run <| ⟨rfl, hl, ?_⟩
   intro s2 hraw hl
   replace r2 := (hraw 2).trans r2
   replace r3 := (hraw 3).trans r3
   replace r6 := (hraw 6).trans r6
   replace r20 := (hraw 20).trans r20
   replace r21 := (hraw 21).trans r21
   replace hf := NoB.congr hf hraw
   clear hraw
   obtain ⟨s, hs⟩ : ∃ q, q = s2 := ⟨_, rfl⟩
   rw [← hs] at r2 r3 r6 r20 r21 hl hf
   rw [← hs]
   clear hs s2
   have hB := hBB
   obtain ⟨m2, m3, m6, m20, -⟩ := Im.all hB
   have hlt : low.length < lw.length := by have := Im.len hB; omega
   refine Nx.run <| blk <| regS (B := K3) (low := lw) (Q := fun q => q = (CQ lw low.length 6 (.box g7 [.d (.int (W (x16 + 1)))]))) [] hl hf ?_ ?_
   ·simp only [rs, JC, HK, F4, Kt, Kw, Jl, hl, nob hf, r2, r3, r6, r20, r21, m2, m3, m6, m20, hlt, (M8 (v := .int (W (x16 + 1)))), reduceCtorEq, Nat.reduceEqDiff, Nat.reduceAdd]
   rintro s - hl hf
   replace hl : s.low = (CQ lw low.length 6 (.box g7 [.d (.int (W (x16 + 1)))])) := hl
   replace hB := Im.set (l' := [(2, .v (.d (.int 0))), (3, .v (.d (.int 0))), (6, .box g7 [.d (.int (W (x16 + 1)))]), (20, .v (.d (.fn 69 [] [.fptr (Enc.cells v2.1) 0, .fptr [Enc.enc v10] 0])))]) hB 6 _ rfl (fun s ⟨q2, q3, q6, q20, _⟩ => ⟨(by rw [Ah, if_neg (by decide)]; exact q2), (by rw [Ah, if_neg (by decide)]; exact q3), (by rw [Ah, if_pos rfl]), (by rw [Ah, if_neg (by decide)]; exact q20), trivial⟩)
   obtain ⟨lw, hlow⟩ : ∃ q, q = (CQ lw low.length 6 (.box g7 [.d (.int (W (x16 + 1)))])) := ⟨_, rfl⟩
   rw [← hlow] at hl hB
   obtain ⟨m2, m3, m6, m20, -⟩ := Im.all hB
   have hlt : low.length < lw.length := by have := Im.len hB; omega
   obtain rfl := oK k4
   exact ⟨rfl, rfl, by rw [hl]; exact OW hB (fun s ⟨q2, q3, q6, q20, _⟩ => ⟨q2, q3, q6, q20, trivial⟩)⟩
  ·intro s hl hf hq
   rcases o17 with y19 | _
   ·try dsimp only at k5 hq
    obtain ⟨r2, r3, r6, r20, -⟩ := hq
    refine qq <| Ra hl hf ?_
    rintro g20 s ⟨r2, r3, -⟩ hl hf
    cases oK k5
    exact ⟨Or.inr rfl, hl, Av (AE r2) (AE r3)⟩
   ·cases k5
 refine Ra hl hf ?_
 rintro g21 s ⟨r2, r3, -⟩ hl hf
 cases oK k1
 exact ⟨Or.inr rfl, hl, Av (AE r2) (AE r3)⟩
def VJ := fun a0 => Cq.mk (@eN a0)
theorem LO (n : Nat) : ∀ (low : List Fr) (a0 : (Sl Int)) (a1 : Int) (a2x : AC) (pja2 : Nat) (pta2 : Nat) (pga2 : Nat) (pja3 : Nat) (pta3 : Nat) (pga3 : Nat), I8 low pja2 pta2 = some (.box pga2 ((Enc.cells a2x).map LV.d)) → I8 low pja3 pta3 = some (.box pga3 [.fn 80 [] [.ptr pja2 pta2 pga2 0, .ptr pja3 pta3 pga3 0]]) → ∀ r : (T3 (Sl Int) (Sl AA) Bool), An n a0 a1 a2x = some r → LY zL 80 [.d (Enc.enc a0), .d (.int a1), .ptr pja2 pta2 pga2 0, .ptr pja3 pta3 pga3 0] low (.d (Enc.enc r)) := by
 induction n with
 | zero => intro low a0 a1 a2x pja2 pta2 pga2 pja3 pta3 pga3 ba2 ba3 r k0; simp [An] at k0
 | succ n ih =>
  intro low a0 a1 a2x pja2 pta2 pga2 pja3 pta3 pga3 ba2 ba3 r k0
  simp only [An] at k0; replace k0 := kq k0
  refine li D3 IB ?_
  rintro s r hl hf
  have q52 := @UG
  have q53 := @H3
  have q54 := @EN
  refine Ra hl hf ?_
  rintro g1 s r hl hf
  refine Ra hl hf ?_
  rintro g2 s r hl hf
  refine Ra hl hf ?_
  rintro g3 s r hl hf
  refine Bn r.2.2.2.2.2.1 k0 (fun c4 k0 => ?_) fun c4 k0 => ?_
  ·obtain ⟨v5, h6, k1⟩ := bnk k0
   obtain ⟨v7, h8, k2⟩ := bnk k1
   obtain ⟨v9, h10, k3⟩ := bnk k2
   have q12 := E3 ba2
   have q13 := E3 ba2
   have q14 := E3 ba2
   refine Ra hl hf ?_
   rintro g11 s r hl hf
   refine Ra hl hf ?_
   rintro g15 s r hl hf
   cases oK k3
   exact ⟨Or.inr rfl, hl, YW (AE r.1) (AE r.2.1) (AE r.2.2.1)⟩
  refine Ra hl hf ?_
  rintro g16 s r hl hf
  refine Ra hl hf ?_
  rintro g17 s r hl hf
  obtain ⟨o19, k4, k5⟩ := bnk k0
  replace k4 := kq k4
  refine ABU (Q := (fun (y18 : Int) j s => j = .normal ∧ BG [E_ 0 a0, I_ 1 a1, (2, .v (.ptr pja2 pta2 pga2 0)), (3, .v (.ptr pja3 pta3 pga3 0)), I_ 9 a0.len, I_ 12 y18] s ∧ s.low = low ∧ NoB D3 s) o19) ?_ ?_
  ·refine Bn r.2.2.2.2.2.2.1 k4 (fun c20 k4 => ?_) fun c20 k4 => ?_
   ·obtain ⟨v21, h22, k6⟩ := bnk k4
    refine Ra hl hf ?_
    rintro g23 s r hl hf
    obtain rfl := oK k6
    exact ⟨rfl, r, hl, hf⟩
   obtain rfl := oK k4
   exact ⟨rfl, ⟨r.1, r.2.1, r.2.2.1, r.2.2.2.1, r.2.2.2.2.1, r.2.2.2.2.2.1, trivial⟩, hl, hf⟩
  intro j s hq
  obtain ⟨y18, rfl⟩ : ∃ x, x = o19 := ⟨_, rfl⟩
  try dsimp only at k5 hq
  obtain ⟨rfl, r, hl, hf⟩ := hq
  refine Ra hl hf ?_
  rintro g24 s r hl hf
  refine blk ?_
  obtain ⟨o27, l28, k7⟩ := bnk k5
  refine AY (f := BB (An n) a0 a1 a2x) (E := fun (x : Int) s => BG [E_ 0 a0, I_ 1 a1, (2, .v (.ptr pja2 pta2 pga2 0)), (3, .v (.ptr pja3 pta3 pga3 0)), I_ 9 a0.len, I_ 13 x] s ∧ s.low = low ∧ NoB D3 s) (Q := fun (o : ((T3 (Sl Int) (Sl AA) Bool) ⊕ (Unit))) j s => match o with | .inl w26 => j = .ret ∧ FnJ IB.1 low (.d (Enc.enc w26)) .ret s | .inr _ => j = .exit 0 ∧ BG [] s ∧ s.low = low ∧ NoB D3 s) l28 ?_ ⟨r, hl, hf⟩ ?_
  ·rintro x25 s out ⟨r, hl, hf⟩ k8
   unfold BB at k8
   have q30 := E3 ba2
   refine Ra hl hf ?_
   rintro g29 s r hl hf
   refine Bn r.2.2.2.2.2.2.1 k8 (fun c31 k8 => ?_) fun c31 k8 => ?_
   ·refine blk ?_
    obtain ⟨v32, h33, k9⟩ := bnk k8
    obtain ⟨v34, h35, k10⟩ := bnk k9
    obtain ⟨v36, h37, k11⟩ := bnk k10
    have q40 := @JL
    have q41 := @sg
    have q42 := E3 ba3
    have q43 := Lm (sz := 1) rfl h33
    have q44 := DZ (sz := 1) (x := v32) (y := (Sl.cold [x25] : Sl Int)) rfl rfl h35
    have f38 : ∀ (e : Env) (c : Nat), (om zL).call 80 [.d (Enc.enc v34), .d (.int a1), .ptr pja2 pta2 pga2 0, .ptr pja3 pta3 pga3 0] (low ++ [⟨e, none⟩]) c = some (.d (Enc.enc (v36)), low ++ [⟨e, none⟩], UT zL 80 [.d (Enc.enc v34), .d (.int a1), .ptr pja2 pta2 pga2 0, .ptr pja3 pta3 pga3 0] (low ++ [⟨e, none⟩]) c) := fun e c => LY.om (ih (low ++ [(⟨e, none⟩ : Fr)]) v34 a1 a2x _ _ _ _ _ _ (Hq ba2) (Hq ba3) v36 h37) c
    have q46 := @f38
    refine Ra hl hf ?_ (h := by intro c; simp only [(pF h35 (by simp)), rt, ps, nob hf, *, reduceCtorEq, Nat.reduceEqDiff, Nat.reduceAdd, Nat.reduceMul] <;> rfl)
    rintro g39 s r hl hf
    refine Ra hl hf ?_
    rintro g47 s r hl hf
    refine Bn r.2.2.2.2.2.2.2.2.1 k11 (fun c48 k11 => ?_) fun c48 k11 => ?_
    ·refine Ra hl hf ?_
     rintro g49 s r hl hf
     obtain rfl := oK k11
     exact ⟨by decide, ⟨rfl, ⟨Or.inr rfl, hl, YW (AE r.1) (AE r.2.1) (AE r.2.2.1)⟩⟩⟩
    refine Ra hl hf ?_
    rintro g50 s r hl hf
    obtain rfl := oK k11
    exact ⟨rfl, r, hl, hf⟩
   obtain rfl := oK k8
   exact ⟨by decide, ⟨rfl, trivial, hl, hf⟩⟩
  intro j s hq
  rcases o27 with w26 | _
  ·try dsimp only at k7 hq
   obtain ⟨rfl, hq⟩ := hq
   cases oK k7
   exact hq
  try dsimp only at k7 hq
  obtain ⟨rfl, -, hl, hf⟩ := hq
  refine Ra hl hf ?_
  rintro g51 s r hl hf
  cases oK k7
  exact ⟨Or.inr rfl, hl, YW (AE r.1) (AE r.2.1) (AE r.2.2.1)⟩
theorem JW {a0 : AC} {r : ((Sl Int) × (Sl AA))} (k0 : Ba a0 = some r) : Fin zL 54 [Enc.enc a0] (Enc.enc r) := by
 unfold Ba at k0; replace k0 := kq k0
 refine fnN G6 KA ?_
 rintro low s r hl hf
 refine Ra hl hf ?_
 rintro g1 s r hl hf
 refine Ra hl hf ?_
 rintro g2 s r hl hf
 have q4 := @P3
 refine Ra hl hf ?_
 rintro g3 s r hl hf
 refine Ra hl hf ?_
 rintro g5 s r hl hf
 refine blk ?_
 obtain ⟨o8, l9, k1⟩ := bnk k0
 refine AY (f := BS a0) (E := fun (x : Int) s => BG [C_ 1 g1 a0, (4, .box g2 [.fn 80 [] [.ptr low.length 1 g1 0, .ptr low.length 4 g2 0]]), I_ 13 a0.BenchBook.Pieces.len, I_ 14 x] s ∧ s.low = low ∧ NoB G6 s) (Q := fun (o : (((Sl Int) × (Sl AA)) ⊕ (Unit))) j s => match o with | .inl w7 => j = .ret ∧ FnJ KA.1 low (.d (Enc.enc w7)) .ret s | .inr _ => j = .exit 0 ∧ BG [C_ 1 g1 a0, (4, .box g2 [.fn 80 [] [.ptr low.length 1 g1 0, .ptr low.length 4 g2 0]])] s ∧ s.low = low ∧ NoB G6 s) l9 ?_ ⟨r, hl, hf⟩ ?_
 ·rintro x6 s out ⟨r, hl, hf⟩ k2
  unfold BS at k2
  refine Ra hl hf ?_
  rintro g10 s r hl hf
  refine Bn r.2.2.2.2.1 k2 (fun c11 k2 => ?_) fun c11 k2 => ?_
  ·refine blk <| Ra hl hf ?_
   rintro g12 s r hl hf
   obtain ⟨v13, h14, k3⟩ := bnk k2
   have q17 := @JL
   have q18 := @sg
   have f15 : ∀ (e : Env) (c : Nat) (z0 : Env.get 1 e = some (.box g1 ((Enc.cells a0).map LV.d))) (z1 : Env.get 4 e = some (.box g2 [.fn 80 [] [.ptr low.length 1 g1 0, .ptr low.length 4 g2 0]])), (om zL).call 80 [.d .nils, .d (.int x6), .ptr low.length 1 g1 0, .ptr low.length 4 g2 0] (low ++ [⟨e, none⟩]) c = some (.d (Enc.enc (v13)), low ++ [⟨e, none⟩], UT zL 80 [.d .nils, .d (.int x6), .ptr low.length 1 g1 0, .ptr low.length 4 g2 0] (low ++ [⟨e, none⟩]) c) := fun e c z0 z1 => LY.om (LO 64 (low ++ [(⟨e, none⟩ : Fr)]) (Sl.nil : (Sl Int)) x6 a0 _ _ _ _ _ _ (SX z0) (SX z1) v13 h14) c
   have q19 := @f15
   refine Ra hl hf ?_
   rintro g16 s r hl hf
   refine Ra hl hf ?_
   rintro g20 s r hl hf
   refine Bn r.2.2.2.2.2.2.1 k3 (fun c21 k3 => ?_) fun c21 k3 => ?_
   ·refine Ra hl hf ?_
    rintro g22 s r hl hf
    obtain rfl := oK k3
    exact ⟨by decide, ⟨rfl, ⟨Or.inr rfl, hl, Av (AE r.1) (AE r.2.1)⟩⟩⟩
   refine Ra hl hf ?_
   rintro g23 s r hl hf
   obtain rfl := oK k3
   exact ⟨rfl, r, hl, hf⟩
  obtain rfl := oK k2
  exact ⟨by decide, ⟨rfl, ⟨r.1, r.2.1, trivial⟩, hl, hf⟩⟩
 intro j s hq
 rcases o8 with w7 | _
 ·try dsimp only at k1 hq
  obtain ⟨rfl, hq⟩ := hq
  cases oK k1
  exact hq
 try dsimp only at k1 hq
 obtain ⟨rfl, r, hl, hf⟩ := hq
 obtain ⟨v25, h26, k4⟩ := bnk k1
 obtain ⟨c24, hc24⟩ := Hk (LP := zL) (ds := [Enc.enc a0, .nils]) (Fj h26); simp only [List.map_cons, List.map_nil] at hc24
 have q28 := @hc24
 refine Ra hl hf ?_
 rintro g27 s r hl hf
 cases oK k4
 exact ⟨Or.inr rfl, hl, Av (AE r.1) (AE r.2.1)⟩
def G8 := fun a0 => Cq.mk (@JW a0)
theorem ZL {a0 : BenchBook} {r : ((Sl Int) × Int)} (k0 : HI a0 = some r) : Fin zL 23 [Enc.enc a0] (Enc.enc r) := by
 unfold HI at k0; replace k0 := kq k0
 refine fnN Zt Zz ?_
 rintro low s r hl hf
 have q15 := @EF
 have q16 := @G8
 refine Ra hl hf ?_
 rintro g1 s r hl hf
 obtain ⟨v2, h3, k1⟩ := bnk k0
 refine Ra hl hf ?_
 rintro g4 s r hl hf
 refine Ra hl hf ?_
 rintro g5 s r hl hf
 refine JV r.2.2.1 k1 (fun c6 k1 => ?_) fun c6 k1 => ?_
 ·obtain ⟨v7, h8, k2⟩ := bnk k1
  refine Ra hl hf ?_
  rintro g9 s r hl hf
  obtain ⟨v10, h11, k3⟩ := bnk k2
  have q13 := Lm (sz := 1) rfl h11
  refine Ra hl hf ?_
  rintro g12 s r hl hf
  cases oK k3
  exact ⟨Or.inr rfl, hl, Av (fy r.1) (AE r.2.1)⟩
 refine Ra hl hf ?_
 rintro g14 s r hl hf
 cases oK k1
 exact ⟨Or.inr rfl, hl, Av (AE r.1) (AE r.2.1)⟩
def QU := fun a0 => Cq.mk (@ZL a0)
theorem bM {a0 : BenchBook} {r : ((Sl AA) × Int)} (k0 : IW a0 = some r) : Fin zL 21 [Enc.enc a0] (Enc.enc r) := by
 unfold IW at k0; replace k0 := kq k0
 refine fnN dx eh ?_
 rintro low s r hl hf
 have q12 := @EF
 have q13 := @G8
 refine Ra hl hf ?_
 rintro g1 s r hl hf
 obtain ⟨v2, h3, k1⟩ := bnk k0
 refine Ra hl hf ?_
 rintro g4 s r hl hf
 refine Ra hl hf ?_
 rintro g5 s r hl hf
 refine JV r.2.2.1 k1 (fun c6 k1 => ?_) fun c6 k1 => ?_
 ·obtain ⟨v7, h8, k2⟩ := bnk k1
  refine Ra hl hf ?_
  rintro g9 s r hl hf
  refine Ra hl hf ?_
  rintro g10 s r hl hf
  cases oK k2
  exact ⟨Or.inr rfl, hl, Av (AE r.1) (AE r.2.1)⟩
 refine Ra hl hf ?_
 rintro g11 s r hl hf
 cases oK k1
 exact ⟨Or.inr rfl, hl, Av (AE r.1) (AE r.2.1)⟩
def SB := fun a0 => Cq.mk (@bM a0)
theorem eu {a0 : BenchBook} {r : ((Sl AA) × Int)} (k0 : Jq a0 = some r) : Fin zL 18 [Enc.enc a0] (Enc.enc r) := by
 unfold Jq at k0; replace k0 := kq k0
 refine fnN hH i4 ?_
 rintro low s r hl hf
 have q20 := @EF
 have q21 := @H3
 have q22 := @EN
 refine Ra hl hf ?_
 rintro g1 s r hl hf
 obtain ⟨v2, h3, k1⟩ := bnk k0
 refine Ra hl hf ?_
 rintro g4 s r hl hf
 refine Ra hl hf ?_
 rintro g5 s r hl hf
 refine JV r.2.2.1 k1 (fun c6 k1 => ?_) fun c6 k1 => ?_
 ·obtain ⟨v7, h8, k2⟩ := bnk k1
  obtain ⟨v9, h10, k3⟩ := bnk k2
  obtain ⟨v11, h12, k4⟩ := bnk k3
  have q14 := Fin.call (LP := zL) (ds := [Enc.enc v2.1, .nils]) (Fj h8)
  refine Ra hl hf ?_
  rintro g13 s r hl hf
  refine Ra hl hf ?_
  rintro g15 s r hl hf
  refine JV r.2.1 k4 (fun c16 k4 => ?_) fun c16 k4 => ?_
  ·refine Ra hl hf ?_
   rintro g17 s r hl hf
   cases oK k4
   exact ⟨Or.inr rfl, hl, Av (AE r.1) (AE r.2.1)⟩
  refine Ra hl hf ?_
  rintro g18 s r hl hf
  cases oK k4
  exact ⟨Or.inr rfl, hl, Av (AE r.1) (AE r.2.1)⟩
 refine Ra hl hf ?_
 rintro g19 s r hl hf
 cases oK k1
 exact ⟨Or.inr rfl, hl, Av (AE r.1) (AE r.2.1)⟩
def U5 := fun a0 => Cq.mk (@eu a0)
theorem bu {a0 : Int} {a1 : (Sl Int)} {r : Int} (k0 : M3 a0 a1 = some r) : Fin zL 58 [.int a0, Enc.enc a1] (.int r) := by
 unfold M3 at k0; replace k0 := kq k0
 refine fnN NE eX ?_
 rintro low s r hl hf
 refine Ra hl hf ?_
 rintro g1 s r hl hf
 refine Ra hl hf ?_
 rintro g2 s r hl hf
 refine blk ?_
 obtain ⟨o6, l7, k1⟩ := bnk k0
 refine AY (f := LM a1) (E := fun (x : Int × Int) s => BG [I_ 0 x.1, E_ 7 a1, I_ 8 a1.len, I_ 9 x.2] s ∧ s.low = low ∧ NoB NE s) (Q := fun (y5 : Int) j s => j = .exit 0 ∧ BG [I_ 0 y5] s ∧ s.low = low ∧ NoB NE s) l7 ?_ ⟨r, hl, hf⟩ ?_
 ·rintro ⟨x3, x4⟩ s out ⟨r, hl, hf⟩ k2
  dsimp only at r
  simp only [LM] at k2
  refine Ra hl hf ?_
  rintro g8 s r hl hf
  refine Bn r.2.2.2.2.1 k2 (fun c9 k2 => ?_) fun c9 k2 => ?_
  ·refine blk ?_
   obtain ⟨v10, h11, k3⟩ := bnk k2
   refine Ra hl hf ?_
   rintro g12 s r hl hf
   have q14 := @dk
   refine Ra hl hf ?_
   rintro g13 s r hl hf
   refine Ra hl hf ?_
   rintro g15 s r hl hf
   obtain rfl := oK k3
   exact ⟨rfl, r, hl, hf⟩
  obtain rfl := oK k2
  exact ⟨by decide, ⟨rfl, ⟨r.1, trivial⟩, hl, hf⟩⟩
 intro j s hq
 obtain ⟨y5, rfl⟩ : ∃ x, x = o6 := ⟨_, rfl⟩
 try dsimp only at k1 hq
 obtain ⟨rfl, r, hl, hf⟩ := hq
 refine Ra hl hf ?_
 rintro g16 s r hl hf
 cases oK k1
 exact ⟨Or.inr rfl, hl, AH (AE r.1)⟩
def fN := fun a0 a1 => Cq.mk (@bu a0 a1)
theorem K1 {low : List Fr} (a0 : Int) (a1x : Int) {pja1 : Nat} {pta1 : Nat} {pga1 : Nat} (ba1 : I8 low pja1 pta1 = some (.box pga1 [.d (.int a1x)])) : LY zL 57 [.d (.int a0), .ptr pja1 pta1 pga1 0] low (.d (.bool (F2 a0 a1x))) := by
 refine li Zd Zh ?_
 rintro s r hl hf
 refine Ra hl hf ?_
 rintro g1 s r hl hf
 have q3 := E3 ba1
 refine Ra hl hf ?_
 rintro g2 s r hl hf
 exact ⟨Or.inr rfl, hl, AH (AE r.1)⟩
theorem SL {low : List Fr} {a0 : BenchBook} {a1s0c0x : Int} {pja1s0c0 : Nat} {pta1s0c0 : Nat} {pga1s0c0 : Nat} (ba1s0c0 : I8 low pja1s0c0 pta1s0c0 = some (.box pga1s0c0 [.d (.int a1s0c0x)])) {r : AC} (k0 : Hu a0 a1s0c0x = some r) : LY zL 56 [.d (Enc.enc a0), .agg [.fn 57 [] [.ptr pja1s0c0 pta1s0c0 pga1s0c0 0]]] low (.d (Enc.enc r)) := by
 unfold Hu at k0; replace k0 := kq k0
 refine li BH Qc ?_
 rintro s r hl hf
 have q2 := @pM
 have q3 := @lC
 have q4 := @JE
 refine Ra hl hf ?_
 rintro g1 s r hl hf
 have q6 := @GM
 have q7 := @IL
 have q8 := @Pn
 have q9 := @Jv
 have q10 := @JE
 have q11 := @tY
 refine Ra hl hf ?_ (h := by intro c; simp only [(Ug (n := 2) (AL.mk (-1) (-1)) rfl (by decide)), (SO (LP := zL) (t := 13) (gm := c + 1) (key := (Bq.key (AL.mk (-1) (-1)))) (a := (Sl.nil : (Sl Int))) (vd := .nils) (hav := rfl)), rt, ps, nob hf, *, reduceCtorEq, Nat.reduceEqDiff, Nat.reduceAdd, Nat.reduceMul] <;> rfl)
 rintro g5 s r hl hf
 have q15 := @Kx
 have q16 := @EB
 refine Ra hl hf ?_
 rintro g14 s r hl hf
 refine Ra hl hf ?_
 rintro g17 s r hl hf
 refine blk ?_
 obtain ⟨o21, l22, k1⟩ := bnk k0
 refine AY (f := H5 a0 a1s0c0x) (E := fun (x : (List (List Int × (Sl Int))) × Int) s => BG [C_ 2 g1 a0, (3, .box (g1 + 1) [.fn 57 [] [.ptr pja1s0c0 pta1s0c0 pga1s0c0 0]]), C_ 4 (g1 + 1 + 1) (AC.mk (BenchBook.mk (VoiceBook.mk (Sl.nil : (Sl AO)) 0 (Sl.nil : (Sl AN))) (Sl.nil : (Sl AM)) 0) (Mp.nil : (Mp 2 (Sl Int)))), (5, .box (g5 + 1 + 1 + 1 + 1 + 1 + 1) (AC.lc (AC.mk a0 (Mp.nil : (Mp 2 (Sl Int)))) low.length 13 (g5 + 1))), (6, .v (.fn 82 [.agg (AC.lc (AC.mk a0 (Mp.nil : (Mp 2 (Sl Int)))) low.length 13 (g5 + 1))] [])), (13, .mapo (g5 + 1) 2 (D4 x.1)), E_ 20 a0.Pieces, I_ 21 a0.Pieces.len, I_ 22 x.2] s ∧ s.low = low ∧ NoB BH s) (Q := fun (y20 : (List (List Int × (Sl Int)))) j s => j = .exit 0 ∧ BG [C_ 2 g1 a0, (3, .box (g1 + 1) [.fn 57 [] [.ptr pja1s0c0 pta1s0c0 pga1s0c0 0]]), C_ 4 (g1 + 1 + 1) (AC.mk (BenchBook.mk (VoiceBook.mk (Sl.nil : (Sl AO)) 0 (Sl.nil : (Sl AN))) (Sl.nil : (Sl AM)) 0) (Mp.nil : (Mp 2 (Sl Int)))), (5, .box (g5 + 1 + 1 + 1 + 1 + 1 + 1) (AC.lc (AC.mk a0 (Mp.nil : (Mp 2 (Sl Int)))) low.length 13 (g5 + 1))), (13, .mapo (g5 + 1) 2 (D4 y20))] s ∧ s.low = low ∧ NoB BH s) l22 ?_ ⟨r, hl, hf⟩ ?_
 ·rintro ⟨x18, x19⟩ s out ⟨r, hl, hf⟩ k2
  dsimp only at r
  simp only [H5] at k2
  refine Ra hl hf ?_
  rintro g23 s r hl hf
  refine Bn r.2.2.2.2.2.2.2.2.2.1 k2 (fun c24 k2 => ?_) fun c24 k2 => ?_
  ·refine blk ?_
   obtain ⟨v25, h26, k3⟩ := bnk k2
   refine Ra hl hf ?_
   rintro g27 s r hl hf
   refine Ra hl hf ?_
   rintro g28 s r hl hf
   refine blk ?_
   obtain ⟨o32, l33, k4⟩ := bnk k3
   refine AY (f := Hn a0 a1s0c0x x19 v25) (E := fun (x : (List (List Int × (Sl Int))) × Int) s => BG [C_ 2 g1 a0, (3, .box (g1 + 1) [.fn 57 [] [.ptr pja1s0c0 pta1s0c0 pga1s0c0 0]]), C_ 4 (g1 + 1 + 1) (AC.mk (BenchBook.mk (VoiceBook.mk (Sl.nil : (Sl AO)) 0 (Sl.nil : (Sl AN))) (Sl.nil : (Sl AM)) 0) (Mp.nil : (Mp 2 (Sl Int)))), (5, .box (g5 + 1 + 1 + 1 + 1 + 1 + 1) (AC.lc (AC.mk a0 (Mp.nil : (Mp 2 (Sl Int)))) low.length 13 (g5 + 1))), (6, .v (.fn 82 [.agg (AC.lc (AC.mk a0 (Mp.nil : (Mp 2 (Sl Int)))) low.length 13 (g5 + 1))] [])), I_ 7 x19, (13, .mapo (g5 + 1) 2 (D4 x.1)), E_ 20 a0.Pieces, I_ 21 a0.Pieces.len, I_ 22 x19, I_ 29 v25.Parts.len, I_ 30 x.2] s ∧ s.low = low ∧ NoB BH s) (Q := fun (y31 : (List (List Int × (Sl Int)))) j s => j = .exit 2 ∧ BG [C_ 2 g1 a0, (3, .box (g1 + 1) [.fn 57 [] [.ptr pja1s0c0 pta1s0c0 pga1s0c0 0]]), C_ 4 (g1 + 1 + 1) (AC.mk (BenchBook.mk (VoiceBook.mk (Sl.nil : (Sl AO)) 0 (Sl.nil : (Sl AN))) (Sl.nil : (Sl AM)) 0) (Mp.nil : (Mp 2 (Sl Int)))), (5, .box (g5 + 1 + 1 + 1 + 1 + 1 + 1) (AC.lc (AC.mk a0 (Mp.nil : (Mp 2 (Sl Int)))) low.length 13 (g5 + 1))), (6, .v (.fn 82 [.agg (AC.lc (AC.mk a0 (Mp.nil : (Mp 2 (Sl Int)))) low.length 13 (g5 + 1))] [])), (13, .mapo (g5 + 1) 2 (D4 y31)), E_ 20 a0.Pieces, I_ 21 a0.Pieces.len, I_ 22 x19] s ∧ s.low = low ∧ NoB BH s) l33 ?_ ⟨r, hl, hf⟩ ?_
   ·rintro ⟨x29, x30⟩ s out ⟨r, hl, hf⟩ k5
    dsimp only at r
    simp only [Hn] at k5
    refine Ra hl hf ?_
    rintro g34 s r hl hf
    refine Bn r.2.2.2.2.2.2.2.2.2.2.2.2.1 k5 (fun c35 k5 => ?_) fun c35 k5 => ?_
    ·refine blk <| Ra hl hf ?_
     rintro g36 s r hl hf
     have q38 := @Ff
     refine Ra hl hf ?_
     rintro g37 s r hl hf
     refine Ra hl hf ?_
     rintro g39 s r hl hf
     refine blk ?_
     obtain ⟨o43, l44, k6⟩ := bnk k5
     refine AY (f := Hj a0 a1s0c0x x19 x30) (E := fun (x : (List (List Int × (Sl Int))) × Int) s => BG [C_ 2 g1 a0, (3, .box (g1 + 1) [.fn 57 [] [.ptr pja1s0c0 pta1s0c0 pga1s0c0 0]]), C_ 4 (g1 + 1 + 1) (AC.mk (BenchBook.mk (VoiceBook.mk (Sl.nil : (Sl AO)) 0 (Sl.nil : (Sl AN))) (Sl.nil : (Sl AM)) 0) (Mp.nil : (Mp 2 (Sl Int)))), (5, .box (g5 + 1 + 1 + 1 + 1 + 1 + 1) (AC.lc (AC.mk a0 (Mp.nil : (Mp 2 (Sl Int)))) low.length 13 (g5 + 1))), (6, .v (.fn 82 [.agg (AC.lc (AC.mk a0 (Mp.nil : (Mp 2 (Sl Int)))) low.length 13 (g5 + 1))] [])), I_ 7 x19, C_ 10 (g37 + 1 + 1 + 1) (AL.mk x19 x30), (13, .mapo (g5 + 1) 2 (D4 x.1)), E_ 20 a0.Pieces, I_ 21 a0.Pieces.len, I_ 22 x19, I_ 29 v25.Parts.len, I_ 30 x30, I_ 39 a0.Voice.Boys.len, I_ 40 x.2] s ∧ s.low = low ∧ NoB BH s) (Q := fun (y42 : (List (List Int × (Sl Int)))) j s => j = .exit 4 ∧ BG [C_ 2 g1 a0, (3, .box (g1 + 1) [.fn 57 [] [.ptr pja1s0c0 pta1s0c0 pga1s0c0 0]]), C_ 4 (g1 + 1 + 1) (AC.mk (BenchBook.mk (VoiceBook.mk (Sl.nil : (Sl AO)) 0 (Sl.nil : (Sl AN))) (Sl.nil : (Sl AM)) 0) (Mp.nil : (Mp 2 (Sl Int)))), (5, .box (g5 + 1 + 1 + 1 + 1 + 1 + 1) (AC.lc (AC.mk a0 (Mp.nil : (Mp 2 (Sl Int)))) low.length 13 (g5 + 1))), (6, .v (.fn 82 [.agg (AC.lc (AC.mk a0 (Mp.nil : (Mp 2 (Sl Int)))) low.length 13 (g5 + 1))] [])), I_ 7 x19, C_ 10 (g37 + 1 + 1 + 1) (AL.mk x19 x30), (13, .mapo (g5 + 1) 2 (D4 y42)), E_ 20 a0.Pieces, I_ 21 a0.Pieces.len, I_ 22 x19, I_ 29 v25.Parts.len, I_ 30 x30] s ∧ s.low = low ∧ NoB BH s) l44 ?_ ⟨r, hl, hf⟩ ?_
     ·rintro ⟨x40, x41⟩ s out ⟨r, hl, hf⟩ k7
      dsimp only at r
      simp only [Hj] at k7
      refine Ra hl hf ?_
      rintro g45 s r hl hf
      refine Bn r.2.2.2.2.2.2.2.2.2.2.2.2.2.2.2.1 k7 (fun c46 k7 => ?_) fun c46 k7 => ?_
      ·refine blk <| Ra hl hf ?_
       rintro g47 s r hl hf
       obtain ⟨o53, q54, k8⟩ := bnk k7
       refine nZ [C_ 2 g1 a0, (3, .box (g1 + 1) [.fn 57 [] [.ptr pja1s0c0 pta1s0c0 pga1s0c0 0]]), C_ 4 (g1 + 1 + 1) (AC.mk (BenchBook.mk (VoiceBook.mk (Sl.nil : (Sl AO)) 0 (Sl.nil : (Sl AN))) (Sl.nil : (Sl AM)) 0) (Mp.nil : (Mp 2 (Sl Int)))), (5, .box (g5 + 1 + 1 + 1 + 1 + 1 + 1) (AC.lc (AC.mk a0 (Mp.nil : (Mp 2 (Sl Int)))) low.length 13 (g5 + 1))), (6, .v (.fn 82 [.agg (AC.lc (AC.mk a0 (Mp.nil : (Mp 2 (Sl Int)))) low.length 13 (g5 + 1))] [])), I_ 7 x19, C_ 10 (g37 + 1 + 1 + 1) (AL.mk x19 x30), I_ 11 x41, (13, .mapo (g5 + 1) 2 (D4 x40)), E_ 20 a0.Pieces, I_ 21 a0.Pieces.len, I_ 22 x19, I_ 29 v25.Parts.len, I_ 30 x30, I_ 39 a0.Voice.Boys.len, I_ 40 x41, B_ 53 o53] hl hf ?_ ?_
       ·by_cases c49 : (F2 x41 a1s0c0x) = true
        ·rw [if_pos c49] at q54
         have e1 := oI q54
         have f48 : ∀ (e : Env) (c : Nat), (om zL).call 57 [.d (.int x41), .ptr pja1s0c0 pta1s0c0 pga1s0c0 0] (low ++ [⟨e, none⟩]) c = some (.d (.bool ((F2 x41 a1s0c0x))), low ++ [⟨e, none⟩], UT zL 57 [.d (.int x41), .ptr pja1s0c0 pta1s0c0 pga1s0c0 0] (low ++ [⟨e, none⟩]) c) := fun e c => LY.om (K1 x41 a1s0c0x (Hq ba1s0c0)) c
         simp only [rs, ps, Bh, H9, JL, DT, hl, nob hf, r, f48, c49, ← e1, reduceCtorEq, Nat.reduceEqDiff, Nat.reduceAdd]
        rw [if_neg c49] at q54
        have c49 := eq_false_of_ne_true c49
        obtain ⟨v50, h51, q72⟩ := bnd q54
        have e1 := oI q72
        have f48 : ∀ (e : Env) (c : Nat), (om zL).call 57 [.d (.int x41), .ptr pja1s0c0 pta1s0c0 pga1s0c0 0] (low ++ [⟨e, none⟩]) c = some (.d (.bool ((F2 x41 a1s0c0x))), low ++ [⟨e, none⟩], UT zL 57 [.d (.int x41), .ptr pja1s0c0 pta1s0c0 pga1s0c0 0] (low ++ [⟨e, none⟩]) c) := fun e c => LY.om (K1 x41 a1s0c0x (Hq ba1s0c0)) c
        have f52 : ∀ (e : Env) (c : Nat), (om zL).call 82 [.agg (AC.lc (AC.mk a0 (Mp.nil : (Mp 2 (Sl Int)))) low.length 13 (g5 + 1)), .d (Enc.enc (AL.mk x19 x30)), .d (.int x41)] (low ++ [⟨e, none⟩]) c = some (.d (.bool (v50)), low ++ [⟨e, none⟩], UT zL 82 [.agg (AC.lc (AC.mk a0 (Mp.nil : (Mp 2 (Sl Int)))) low.length 13 (g5 + 1)), .d (Enc.enc (AL.mk x19 x30)), .d (.int x41)] (low ++ [⟨e, none⟩]) c) := fun e c => LY.om (KR (by first | omega | (simp only [List.length_append, List.length_cons, List.length_nil]; omega)) h51) c
        simp only [rs, ps, Bh, H9, JL, DT, hl, nob hf, r, f48, c49, f52, ← e1, reduceCtorEq, Nat.reduceEqDiff, Nat.reduceAdd]
       rintro s r hl hf
       refine Bn r.2.2.2.2.2.2.2.2.2.2.2.2.2.2.2.2.1 k8 (fun c57 k8 => ?_) fun c57 k8 => ?_
       ·refine Ra hl hf ?_
        rintro g58 s r hl hf
        obtain rfl := oK k8
        exact ⟨rfl, r, hl, hf⟩
       obtain ⟨v59, h60, k9⟩ := bnk k8
       have q62 := @Pn
       have q63 := @Jv
       have q64 := @KP
       have q68 := DZ (sz := 1) (x := (OJ (Sl.nil : (Sl Int)) x40 (Bq.key (AL.mk x19 x30)))) (y := (Sl.cold [x41] : Sl Int)) rfl rfl h60
       refine Ra hl hf ?_ (h := by intro c; simp only [(Ug (n := 2) (AL.mk x19 x30) rfl (by decide)), (Tj (LP := zL) (t := 13) (gm := g5 + 1) (key := (Bq.key (AL.mk x19 x30))) (es := x40) (z := (Sl.nil : (Sl Int))) (hz := rfl)), (eo (LP := zL) (a := (OJ (Sl.nil : (Sl Int)) x40 (Bq.key (AL.mk x19 x30)))) (y := .d (.int (HY x40 (Bq.key (AL.mk x19 x30)))))), (SE (LP := zL) (x := Sl.lv (Sl.spent (OJ (Sl.nil : (Sl Int)) x40 (Bq.key (AL.mk x19 x30))))) (y := .int (HY x40 (Bq.key (AL.mk x19 x30))))), (SI (LP := zL) (t := 13) (gm := g5 + 1) (key := (Bq.key (AL.mk x19 x30))) (es := x40) (z := (Sl.nil : (Sl Int))) (a := v59)), rt, ps, nob hf, *, reduceCtorEq, Nat.reduceEqDiff, Nat.reduceAdd, Nat.reduceMul] <;> rfl)
       rintro g61 s r hl hf
       refine Ra hl hf ?_
       rintro g71 s r hl hf
       obtain rfl := oK k9
       exact ⟨rfl, r, hl, hf⟩
      obtain rfl := oK k7
      exact ⟨by decide, ⟨rfl, ⟨r.1, r.2.1, r.2.2.1, r.2.2.2.1, r.2.2.2.2.1, r.2.2.2.2.2.1, r.2.2.2.2.2.2.1, r.2.2.2.2.2.2.2.1, r.2.2.2.2.2.2.2.2.1, r.2.2.2.2.2.2.2.2.2.1, r.2.2.2.2.2.2.2.2.2.2.1, r.2.2.2.2.2.2.2.2.2.2.2.1, r.2.2.2.2.2.2.2.2.2.2.2.2.1, trivial⟩, hl, hf⟩⟩
     intro j s hq
     obtain ⟨y42, rfl⟩ : ∃ x, x = o43 := ⟨_, rfl⟩
     try dsimp only at k6 hq
     obtain ⟨rfl, r, hl, hf⟩ := hq
     refine Ra hl hf ?_
     rintro g73 s r hl hf
     obtain rfl := oK k6
     exact ⟨rfl, r, hl, hf⟩
    obtain rfl := oK k5
    exact ⟨by decide, ⟨rfl, ⟨r.1, r.2.1, r.2.2.1, r.2.2.2.1, r.2.2.2.2.1, r.2.2.2.2.2.2.1, r.2.2.2.2.2.2.2.1, r.2.2.2.2.2.2.2.2.1, r.2.2.2.2.2.2.2.2.2.1, trivial⟩, hl, hf⟩⟩
   intro j s hq
   obtain ⟨y31, rfl⟩ : ∃ x, x = o32 := ⟨_, rfl⟩
   try dsimp only at k4 hq
   obtain ⟨rfl, r, hl, hf⟩ := hq
   refine Ra hl hf ?_
   rintro g74 s r hl hf
   obtain rfl := oK k4
   exact ⟨rfl, r, hl, hf⟩
  obtain rfl := oK k2
  exact ⟨by decide, ⟨rfl, ⟨r.1, r.2.1, r.2.2.1, r.2.2.2.1, r.2.2.2.2.2.1, trivial⟩, hl, hf⟩⟩
 intro j s hq
 obtain ⟨y20, rfl⟩ : ∃ x, x = o21 := ⟨_, rfl⟩
 try dsimp only at k1 hq
 obtain ⟨rfl, r, hl, hf⟩ := hq
 have q76 := @GM
 have q77 := @IL
 have q78 := @EB
 refine Ra hl hf ?_
 rintro g75 s r hl hf
 cases oK k1
 exact ⟨Or.inr rfl, hl, AH (MP (by rw [hl]; exact r.1) r.2.1)⟩
end Go.Lf
