/- A part of the proof. -/
import Derived.Test.YtdjddljglkeefaaDoorx20
import Derived.Test.YtdjddljglkeefaaDoorx22
import Derived.Test.YtdjddljglkeefaaDoorx47
import Derived.Test.YtdjddljglkeefaaDoorx48
set_option linter.all false
set_option maxHeartbeats 9999999
namespace Go.Lf
open Go
theorem XL {a0 : (Sl AB)} {a1 : (Sl AB)} {r : Bool} (k0 : Ic a0 a1 = some r) : Fin zL 48 [zI.enc a0, zI.enc a1] (.bool r) := by
 unfold Ic at k0; replace k0 := kq k0
 refine zU KN Pg ?_
 rintro low s r hl hf
 refine Ra hl hf ?_
 rintro g1 s r hl hf
 refine Ra hl hf ?_
 rintro g2 s r hl hf
 refine Kw r.2.2.1 k0 (fun c3 k0 => ?_) fun c3 k0 => ?_
 ·refine Ra hl hf ?_
  rintro g4 s r hl hf
  refine blk ?_
  obtain ⟨o7, l8, k1⟩ := bnk k0
  refine Ax (f := BP a0 a1) (E := fun (x : Int) s => B6 [E_ 0 a0, E_ 1 a1, I_ 12 a0.len, I_ 13 x] s ∧ s.low = low ∧ NoB KN s) (Q := fun (o : ((Bool) ⊕ (Unit))) j s => match o with | .inl w6 => j = .ret ∧ FnJ Pg.1 low (.d (.bool w6)) .ret s | .inr _ => j = .exit 0 ∧ B6 [] s ∧ s.low = low ∧ NoB KN s) l8 ?_ ⟨r, hl, hf⟩ ?_
  ·rintro x5 s out ⟨r, hl, hf⟩ k2
   unfold BP at k2
   refine Ra hl hf ?_
   rintro g9 s r hl hf
   refine DW r.2.2.2.2.1 k2 (fun c10 k2 => ?_) fun c10 k2 => ?_
   ·refine blk <| Ra hl hf ?_
    rintro g11 s r hl hf
    obtain ⟨v12, h13, k3⟩ := bnk k2
    obtain ⟨v14, h15, k4⟩ := bnk k3
    refine Ra hl hf ?_
    rintro g16 s r hl hf
    refine Kw r.2.2.2.2.1 k4 (fun c17 k4 => ?_) fun c17 k4 => ?_
    ·refine Ra hl hf ?_
     rintro g18 s r hl hf
     obtain rfl := oK k4
     exact ⟨rfl, r, hl, hf⟩
    refine Ra hl hf ?_
    rintro g19 s r hl hf
    obtain rfl := oK k4
    exact ⟨by decide, ⟨rfl, ⟨Or.inr rfl, hl, AI (AK r.1)⟩⟩⟩
   obtain rfl := oK k2
   exact ⟨by decide, ⟨rfl, trivial, hl, hf⟩⟩
  intro j s hq
  rcases o7 with w6 | _
  ·try dsimp only at k1 hq
   obtain ⟨rfl, hq⟩ := hq
   cases oK k1
   exact hq
  try dsimp only at k1 hq
  obtain ⟨rfl, -, hl, hf⟩ := hq
  refine Ra hl hf ?_
  rintro g20 s r hl hf
  cases oK k1
  exact ⟨Or.inr rfl, hl, AI (AK r.1)⟩
 refine Ra hl hf ?_
 rintro g21 s r hl hf
 cases oK k0
 exact ⟨Or.inr rfl, hl, AI (AK r.1)⟩
def ZN := fun a0 a1 => Cq.mk (@XL a0 a1)
theorem fL {a0 : BenchBook} {a1 : (Sl Int)} {a2 : (Sl AB)} {r : (Bool × Int)} (k0 : JZ a0 a1 a2 = some r) : Fin zL 12 [zI.enc a0, zI.enc a1, zI.enc a2] (zI.enc r) := by
 unfold JZ at k0; replace k0 := kq k0
 refine zU Hm jg ?_
 rintro low s ⟨r0, r1, r2, -⟩ hl hf
 have q48 := @Dy
 have q49 := @Dt
 have q50 := @Ja
 have q51 := @ZN
 refine Ra hl hf ?_
 rintro g1 s ⟨r1, r3, r5, r6, r7, -⟩ hl hf
 refine Ra hl hf ?_
 rintro g2 s ⟨r1, r3, r5, r6, r7, r8, -⟩ hl hf
 refine Ra hl hf ?_
 rintro g3 s ⟨r1, r3, r5, r6, r7, r8, r14, r15, r16, -⟩ hl hf
 refine blk ?_
 obtain ⟨o7, l8, k1⟩ := bnk k0
 refine Ax (f := EV a0 a1) (E := fun (x : Bool × Int) s => B9 [E_ 1 a1, C_ 3 g1 a0, (5, .box (g1 + 1) [.d (zI.enc a2)]), (6, .box (g1 + 1 + 1) [.d (.bool false)]), N_ 7 (g1 + 1 + 1 + 1) 0, B_ 8 x.1, E_ 14 a1, I_ 15 a1.len, I_ 16 x.2] s ∧ s.low = low ∧ NoB Hm s) (Q := fun (y6 : Bool) j s => j = .exit 0 ∧ B9 [E_ 1 a1, C_ 3 g1 a0, (5, .box (g1 + 1) [.d (zI.enc a2)]), (6, .box (g1 + 1 + 1) [.d (.bool false)]), N_ 7 (g1 + 1 + 1 + 1) 0, B_ 8 y6] s ∧ s.low = low ∧ NoB Hm s) l8 ?_ ⟨⟨r1, r3, r5, r6, r7, r8, r14, r15, r16, trivial⟩, hl, hf⟩ ?_
 ·rintro ⟨x4, x5⟩ s out ⟨⟨r1, r3, r5, r6, r7, r8, r14, r15, r16, -⟩, hl, hf⟩ k2
  dsimp only at r8 r16
  simp only [EV] at k2
  refine Ra hl hf ?_
  rintro g9 s ⟨r1, r3, r5, r6, r7, r8, r14, r15, r16, r17, -⟩ hl hf
  refine DW r17 k2 (fun c10 k2 => ?_) fun c10 k2 => ?_
  ·refine blk ?_
   obtain ⟨v11, h12, k3⟩ := bnk k2
   refine Ra hl hf ?_
   rintro g13 s ⟨r1, r3, r5, r6, r7, r8, r9, r10, r14, r15, r16, -⟩ hl hf
   obtain ⟨o19, q, k4⟩ := bnk k3
   refine Rq (fun g21 => [B_ 8 o19]) hl hf q ?_
   rintro g21 s ⟨r1, r3, r5, r6, r7, r8, r14, r15, r16, -⟩ hl hf
   refine Ra hl hf ?_
   rintro g22 s ⟨r1, r3, r5, r6, r7, r8, r14, r15, r16, -⟩ hl hf
   obtain rfl := oK k4
   exact ⟨rfl, ⟨r1, r3, r5, r6, r7, r8, r14, r15, r16, trivial⟩, hl, hf⟩
  obtain rfl := oK k2
  exact ⟨by decide, ⟨rfl, ⟨r1, r3, r5, r6, r7, r8, trivial⟩, hl, hf⟩⟩
 intro j s hq
 obtain ⟨y6, rfl⟩ : ∃ x, x = o7 := ⟨_, rfl⟩
 try dsimp only at k1 hq
 obtain ⟨rfl, ⟨r1, r3, r5, r6, r7, r8, -⟩, hl, hf⟩ := hq
 obtain ⟨v23, h24, k5⟩ := bnk k1
 refine Ra hl hf ?_
 rintro g25 s ⟨r1, r5, r6, r7, r11, r12, -⟩ hl hf
 refine Ra hl hf ?_
 rintro g26 s ⟨r1, r5, r6, r7, r11, r12, r48, -⟩ hl hf
 refine Kw r48 k5 (fun c27 k5 => ?_) fun c27 k5 => ?_
 ·obtain ⟨v28, h29, k6⟩ := bnk k5
  have q31 := Fin.call (LP := zL) (ds := [zI.enc v23.1, zI.enc v28]) (fun low => Hw (low := low) v23.1 v28)
  refine Ra hl hf ?_
  rintro g30 s ⟨r5, r6, r7, r54, -⟩ hl hf
  refine blk ?_
  obtain ⟨⟨_, o44⟩, l45, k9⟩ := bnk k6
  refine Run.rng (B := Hm) (base := low) (n := 65) (a := []) (b := [.d (.fptr (zI.cells v23.1) 0), .d (.fptr [zI.enc v28] 0)]) (jm := fun (x : Unit) => match x with | _ => zR.ret) (l := fun (o : (Unit) ⊕ (Unit)) => match o with | .inl _ => [(5, .box (g1 + 1) [.d (zI.enc a2)]), (6, .box (g1 + 1 + 1) [.d (.bool false)]), (7, .box (g1 + 1 + 1 + 1) [.d (.int 0)]), (54, .v (.d (.fn 65 [] [.fptr (zI.cells v23.1) 0, .fptr [zI.enc v28] 0])))] | .inr _ => [(5, .box (g1 + 1) [.d (zI.enc a2)]), (6, .box (g1 + 1 + 1) [.d (.bool true)]), (7, .box (g1 + 1 + 1 + 1) [.d (.int 0)]), (54, .v (.d (.fn 65 [] [.fptr (zI.cells v23.1) 0, .fptr [zI.enc v28] 0])))]) (t0 := ()) (st' := o44) (v := .d (.tup [])) hl hf (by simp only [Nj, Jb, Fe, r54, IY, Oa, Q1, Vd, List.map_cons, List.map_nil]) ⟨r5, r6, r7, r54, trivial⟩ ?_ ?_
  ·intro g low1 hc
   refine E6 (R := rj Hm low g [55] _ _ (fun (x : Unit) => match x with | _ => zR.ret) (fun (o : (Unit) ⊕ (Unit)) => match o with | .inl _ => [(5, .box (g1 + 1) [.d (zI.enc a2)]), (6, .box (g1 + 1 + 1) [.d (.bool false)]), (7, .box (g1 + 1 + 1 + 1) [.d (.int 0)]), (54, .v (.d (.fn 65 [] [.fptr (zI.cells v23.1) 0, .fptr [zI.enc v28] 0])))] | .inr _ => [(5, .box (g1 + 1) [.d (zI.enc a2)]), (6, .box (g1 + 1 + 1) [.d (.bool true)]), (7, .box (g1 + 1 + 1 + 1) [.d (.int 0)]), (54, .v (.d (.fn 65 [] [.fptr (zI.cells v23.1) 0, .fptr [zI.enc v28] 0])))])) (fun st l h => Vb st l h) ?_  hc l45
   refine H5 (by decide) (fun _ => rfl) ?_
   rintro a32 _ out k7 e above low0 lw lp s hr ha hr0 hBB hl hf
   obtain ⟨e5, e6, e7, e54, -⟩ := hr0
   have r5 : s.raw 5 = some (.v (.ptr low.length 5 (g1 + 1) 0)) := hr 5 _ rfl e5
   have r6 : s.raw 6 = some (.v (.ptr low.length 6 (g1 + 1 + 1) 0)) := hr 6 _ rfl e6
   have r7 : s.raw 7 = some (.v (.ptr low.length 7 (g1 + 1 + 1 + 1) 0)) := hr 7 _ rfl e7
   have r54 : s.raw 54 = some (.v (.d (.fn 65 [] [.fptr (zI.cells v23.1) 0, .fptr [zI.enc v28] 0]))) := hr 54 _ rfl e54
   obtain ⟨zg, -⟩ := ha
   unfold J1 at k7
   replace k7 := kq k7
   refine Nx.run <| Ra hl hf ?_
   rintro g33 s ⟨r5, r6, r7, r13, -⟩ hl hf
   refine ⟨rfl, hl, ?_⟩
   intro s2 hraw hl
   replace r5 := (hraw 5).trans r5
   replace r6 := (hraw 6).trans r6
   replace r7 := (hraw 7).trans r7
   replace r13 := (hraw 13).trans r13
   replace hf := NoB.congr hf hraw
   clear hraw
   obtain ⟨s, hs⟩ : ∃ q, q = s2 := ⟨_, rfl⟩
   rw [← hs] at r5 r6 r7 r13 hl hf
   rw [← hs]
   clear hs s2
   have hB := hBB
   obtain ⟨m5, m6, m7, m54, -⟩ := IE.all hB
   have hlt : low.length < lw.length := by have := IE.len hB; omega
   refine Nx.run <| blk ?_
   obtain ⟨v34, h35, k8⟩ := bnk k7
   have q37 := @IV
   have q38 := @Gl
   have q39 := @FH
   have q40 := @KH
   have q41 := @KA
   have q42 := @JD
   refine Ra hl hf ?_
   rintro g36 s ⟨r6, r7, r58, -⟩ hl hf
   refine DW r58 k8 (fun c43 k8 => ?_) fun c43 k8 => ?_
   ·refine regS (B := Hm) (low := lw) (Q := fun q => q = (CE (CE lw low.length 6 (.box (g1 + 1 + 1) [.d (.bool true)])) low.length 7 (.box (g1 + 1 + 1 + 1) [.d (.int 0)]))) [] hl hf ?_ ?_
    ·simp only [rs, IV, Gl, FH, KH, KA, hl, nob hf, r6, r7, r58, m5, m6, m7, m54, hlt, (Lt (v := .bool true)), (Lt (v := .int 0)), reduceCtorEq, Nat.reduceEqDiff, Nat.reduceAdd]
    rintro s - hl hf
    replace hl : s.low = (CE (CE lw low.length 6 (.box (g1 + 1 + 1) [.d (.bool true)])) low.length 7 (.box (g1 + 1 + 1 + 1) [.d (.int 0)])) := hl
    replace hB := IE.set (l' := [(5, .box (g1 + 1) [.d (zI.enc a2)]), (6, .box (g1 + 1 + 1) [.d (.bool true)]), (7, .box (g1 + 1 + 1 + 1) [.d (.int 0)]), (54, .v (.d (.fn 65 [] [.fptr (zI.cells v23.1) 0, .fptr [zI.enc v28] 0])))]) hB 6 _ rfl (fun s ⟨q5, q6, q7, q54, _⟩ => ⟨(by rw [Ag, if_neg (by decide)]; exact q5), (by rw [Ag, if_pos rfl]), (by rw [Ag, if_neg (by decide)]; exact q7), (by rw [Ag, if_neg (by decide)]; exact q54), trivial⟩)
    replace hB := IE.set (l' := [(5, .box (g1 + 1) [.d (zI.enc a2)]), (6, .box (g1 + 1 + 1) [.d (.bool true)]), (7, .box (g1 + 1 + 1 + 1) [.d (.int 0)]), (54, .v (.d (.fn 65 [] [.fptr (zI.cells v23.1) 0, .fptr [zI.enc v28] 0])))]) hB 7 _ rfl (fun s ⟨q5, q6, q7, q54, _⟩ => ⟨(by rw [Ag, if_neg (by decide)]; exact q5), (by rw [Ag, if_neg (by decide)]; exact q6), (by rw [Ag, if_pos rfl]), (by rw [Ag, if_neg (by decide)]; exact q54), trivial⟩)
    obtain ⟨lw, hlow⟩ : ∃ q, q = (CE (CE lw low.length 6 (.box (g1 + 1 + 1) [.d (.bool true)])) low.length 7 (.box (g1 + 1 + 1 + 1) [.d (.int 0)])) := ⟨_, rfl⟩
    rw [← hlow] at hl hB
    obtain ⟨m5, m6, m7, m54, -⟩ := IE.all hB
    have hlt : low.length < lw.length := by have := IE.len hB; omega
    obtain rfl := oK k8
    exact ⟨rfl, rfl, (show zR.ret ≠ zR.normal by decide), by rw [hl]; exact NZ hB (fun s ⟨q5, q6, q7, q54, _⟩ => ⟨q5, q6, q7, q54, trivial⟩)⟩
   obtain rfl := oK k8
   exact ⟨rfl, rfl, by rw [hl]; exact NZ hB (fun s ⟨q5, q6, q7, q54, _⟩ => ⟨q5, q6, q7, q54, trivial⟩)⟩
  ·intro s hl hf hq
   rcases o44 with _ | _
   ·try dsimp only at k9 hq
    obtain ⟨r5, r6, r7, r54, -⟩ := hq
    refine nX <| Ra hl hf ?_
    rintro g46 s ⟨r6, r7, -⟩ hl hf
    cases oK k9
    exact ⟨Or.inr rfl, hl, BS (HA r6) (HA r7)⟩
   ·try dsimp only at k9 hq
    obtain ⟨r5, r6, r7, r54, -⟩ := hq
    refine nX ?_
    cases oK k9
    exact ⟨Or.inr rfl, hl, BS (HA r6) (HA r7)⟩
 refine Ra hl hf ?_
 rintro g47 s ⟨r6, r7, -⟩ hl hf
 cases oK k5
 exact ⟨Or.inr rfl, hl, BS (HA r6) (HA r7)⟩
def QA := fun a0 a1 a2 => Cq.mk (@fL a0 a1 a2)
theorem dw {a0 : BenchBook} {a1 : Int} {a2 : Int} {r : ((Sl Int) × Int)} (k0 : HB a0 a1 a2 = some r) : Fin zL 14 [zI.enc a0, .int a1, .int a2] (zI.enc r) := by
 unfold HB at k0; replace k0 := kq k0
 refine zU jR ik ?_
 rintro low s r hl hf
 have q23 := @Dy
 have q24 := @Ja
 have q25 := @Kt
 refine Ra hl hf ?_
 rintro g1 s r hl hf
 obtain ⟨⟨o9, o10⟩, q, k1⟩ := bnk k0
 try dsimp only at k1
 refine Rq (fun g12 => [C_ 8 (g12 + 1 + 1 + 1 + 1 + 1 + 1 + 1 + 1 + 1 + 1 + 1 + 1 + 1 + 1 + 1 + 1 + 1 + 1 + 1 + 1) o9, I_ 9 o10]) hl hf q ?_
 rintro g12 s r hl hf
 refine Ra hl hf ?_
 rintro g13 s r hl hf
 refine Kw r.2.2.2.2.1 k1 (fun c14 k1 => ?_) fun c14 k1 => ?_
 ·have q16 := @FC
  have q17 := fun s ro => bw (n := 2) s ro o9.able (AL.mk a1 a2) (Sl.nil : (Sl Int)) (.nils) rfl (by decide) rfl
  refine Ra hl hf ?_
  rintro g15 s r hl hf
  obtain ⟨v18, h19, k2⟩ := bnk k1
  have q21 := LQ (sz := 1) rfl h19
  refine Ra hl hf ?_
  rintro g20 s r hl hf
  cases oK k2
  exact ⟨Or.inr rfl, hl, BS (bu r.1) (AK r.2.1)⟩
 refine Ra hl hf ?_
 rintro g22 s r hl hf
 cases oK k1
 exact ⟨Or.inr rfl, hl, BS (AK r.1) (AK r.2.1)⟩
def Qk := fun a0 a1 a2 => Cq.mk (@dw a0 a1 a2)
theorem VH {a0 : (Sl Int)} {a1 : Int} {r : Bool} (k0 : CV a0 a1 = some r) : Fin zL 25 [zI.enc a0, .int a1] (.bool r) := by
 unfold CV at k0; replace k0 := kq k0
 refine zU JK N6 ?_
 rintro low s r hl hf
 have q22 := @Ib
 refine Ra hl hf ?_
 rintro g1 s r hl hf
 refine Ra hl hf ?_
 rintro g2 s r hl hf
 refine blk ?_
 obtain ⟨o5, l6, k1⟩ := bnk k0
 refine Ax (f := B8 a0 a1) (E := fun (x : Int) s => B6 [E_ 0 a0, I_ 1 a1, I_ 5 x] s ∧ s.low = low ∧ NoB JK s) (Q := fun (o : ((Bool) ⊕ (Unit))) j s => match o with | .inl w4 => j = .ret ∧ FnJ N6.1 low (.d (.bool w4)) .ret s | .inr _ => j = .exit 0 ∧ B6 [] s ∧ s.low = low ∧ NoB JK s) l6 ?_ ⟨r, hl, hf⟩ ?_
 ·rintro x3 s out ⟨r, hl, hf⟩ k2
  unfold B8 at k2
  refine Ra hl hf ?_
  rintro g7 s r hl hf
  refine DW r.2.2.2.1 k2 (fun c8 k2 => ?_) fun c8 k2 => ?_
  ·refine blk ?_
   obtain ⟨zN, q, k3⟩ := bnk k2
   refine Rq (fun g17 => [B_ 35 zN]) hl hf q ?_
   rintro g17 s r hl hf
   refine DW r.2.2.2.1 k3 (fun c18 k3 => ?_) fun c18 k3 => ?_
   ·refine Ra hl hf ?_
    rintro g19 s r hl hf
    obtain rfl := oK k3
    exact ⟨by decide, ⟨rfl, ⟨Or.inr rfl, hl, AI (AK r.1)⟩⟩⟩
   refine Ra hl hf ?_
   rintro g20 s r hl hf
   obtain rfl := oK k3
   exact ⟨rfl, r, hl, hf⟩
  obtain rfl := oK k2
  exact ⟨by decide, ⟨rfl, trivial, hl, hf⟩⟩
 intro j s hq
 rcases o5 with w4 | _
 ·try dsimp only at k1 hq
  obtain ⟨rfl, hq⟩ := hq
  cases oK k1
  exact hq
 try dsimp only at k1 hq
 obtain ⟨rfl, -, hl, hf⟩ := hq
 refine Ra hl hf ?_
 rintro g21 s r hl hf
 cases oK k1
 exact ⟨Or.inr rfl, hl, AI (AK r.1)⟩
def Jg := fun a0 a1 => Cq.mk (@VH a0 a1)
theorem cp {a0 : BenchBook} {r : ((Sl (Sl (Sl Int))) × Bool)} (k0 : He a0 = some r) : Fin zL 15 [zI.enc a0] (zI.enc r) := by
 unfold He at k0; replace k0 := kq k0
 refine zU IL Na ?_
 rintro low s r hl hf
 have q46 := @Qk
 have q47 := @Jg
 refine Ra hl hf ?_
 rintro g1 s r hl hf
 refine Ra hl hf ?_
 rintro g2 s r hl hf
 refine Ra hl hf ?_
 rintro g3 s r hl hf
 refine blk ?_
 obtain ⟨o8, l9, k1⟩ := bnk k0
 refine Ax (f := FV a0) (E := fun (x : (Sl (Sl (Sl Int))) × Int) s => B6 [C_ 1 g1 a0, (4, .v (Sl.lv x.1)), I_ 5 x.2] s ∧ s.low = low ∧ NoB IL s) (Q := fun (o : (((Sl (Sl (Sl Int))) × Bool) ⊕ (Sl (Sl (Sl Int))))) j s => match o with | .inl w6 => j = .ret ∧ FnJ Na.1 low (.d (zI.enc w6)) .ret s | .inr y7 => j = .exit 0 ∧ B6 [C_ 1 g1 a0, (4, .v (Sl.lv y7))] s ∧ s.low = low ∧ NoB IL s) l9 ?_ ⟨r, hl, hf⟩ ?_
 ·rintro ⟨x4, x5⟩ s out ⟨r, hl, hf⟩ k2
  dsimp only at r
  simp only [FV] at k2
  refine Ra hl hf ?_
  rintro g10 s r hl hf
  refine DW r.2.2.2.1 k2 (fun c11 k2 => ?_) fun c11 k2 => ?_
  ·refine blk <| Ra hl hf ?_
   rintro g12 s r hl hf
   refine Ra hl hf ?_
   rintro g13 s r hl hf
   refine blk ?_
   obtain ⟨o18, l19, k3⟩ := bnk k2
   refine Ax (f := Fa a0 x5) (E := fun (x : (Sl (Sl Int)) × Int) s => B6 [C_ 1 g1 a0, (4, .v (Sl.lv x4)), I_ 5 x5, (6, .v (Sl.lv x.1)), I_ 7 x.2] s ∧ s.low = low ∧ NoB IL s) (Q := fun (o : (((Sl (Sl (Sl Int))) × Bool) ⊕ (Sl (Sl Int)))) j s => match o with | .inl w16 => j = .ret ∧ FnJ Na.1 low (.d (zI.enc w16)) .ret s | .inr y17 => j = .exit 2 ∧ B6 [C_ 1 g1 a0, (4, .v (Sl.lv x4)), I_ 5 x5, (6, .v (Sl.lv y17))] s ∧ s.low = low ∧ NoB IL s) l19 ?_ ⟨r, hl, hf⟩ ?_
   ·rintro ⟨x14, x15⟩ s out ⟨r, hl, hf⟩ k4
    dsimp only at r
    simp only [Fa] at k4
    obtain ⟨v20, h21, k5⟩ := bnk k4
    refine Ra hl hf ?_
    rintro g22 s r hl hf
    refine DW r.2.2.2.2.2.1 k5 (fun c23 k5 => ?_) fun c23 k5 => ?_
    ·refine blk ?_
     obtain ⟨v24, h25, k6⟩ := bnk k5
     refine Ra hl hf ?_
     rintro g26 s r hl hf
     obtain ⟨o30, q, k7⟩ := bnk k6
     refine Rq (fun g32 => [B_ 45 o30]) hl hf q ?_
     rintro g32 s r hl hf
     refine DW r.2.2.2.2.2.2.1 k7 (fun c33 k7 => ?_) fun c33 k7 => ?_
     ·refine Ra hl hf ?_
      rintro g34 s r hl hf
      obtain rfl := oK k7
      exact ⟨by decide, ⟨rfl, ⟨Or.inr rfl, hl, BS (AK r.1) (AK r.2.1)⟩⟩⟩
     obtain ⟨v35, h36, k8⟩ := bnk k7
     have q38 := E5 (sz := 1) (x := x14) (y := (Sl.cold [v24.1] : Sl (Sl Int))) rfl rfl h36
     refine Ra hl hf ?_
     rintro g37 s r hl hf
     refine Ra hl hf ?_
     rintro g39 s r hl hf
     obtain rfl := oK k8
     exact ⟨rfl, r, hl, hf⟩
    obtain rfl := oK k5
    exact ⟨by decide, ⟨rfl, ⟨r.1, r.2.1, r.2.2.1, r.2.2.2.1, trivial⟩, hl, hf⟩⟩
   intro j s hq
   rcases o18 with w16 | y17
   ·try dsimp only at k3 hq
    obtain ⟨rfl, hq⟩ := hq
    obtain rfl := oK k3
    exact ⟨by decide, ⟨rfl, hq⟩⟩
   try dsimp only at k3 hq
   obtain ⟨rfl, r, hl, hf⟩ := hq
   obtain ⟨v40, h41, k9⟩ := bnk k3
   have q43 := E5 (sz := 1) (x := x4) (y := (Sl.cold [y17] : Sl (Sl (Sl Int)))) rfl rfl h41
   refine Ra hl hf ?_
   rintro g42 s r hl hf
   refine Ra hl hf ?_
   rintro g44 s r hl hf
   obtain rfl := oK k9
   exact ⟨rfl, r, hl, hf⟩
  obtain rfl := oK k2
  exact ⟨by decide, ⟨rfl, ⟨r.1, r.2.1, trivial⟩, hl, hf⟩⟩
 intro j s hq
 rcases o8 with w6 | y7
 ·try dsimp only at k1 hq
  obtain ⟨rfl, hq⟩ := hq
  cases oK k1
  exact hq
 try dsimp only at k1 hq
 obtain ⟨rfl, r, hl, hf⟩ := hq
 refine Ra hl hf ?_
 rintro g45 s r hl hf
 cases oK k1
 exact ⟨Or.inr rfl, hl, BS (Ob r.1) (AK r.2.1)⟩
def Nz := fun a0 => Cq.mk (@cp a0)
theorem YG {a0 : (Sl Int)} {a1 : Int} {r : Int} (k0 : GY a0 a1 = some r) : Fin zL 32 [zI.enc a0, .int a1] (.int r) := by
 unfold GY at k0; replace k0 := kq k0
 refine zU MH Q7 ?_
 rintro low s r hl hf
 refine Ra hl hf ?_
 rintro g1 s r hl hf
 refine Ra hl hf ?_
 rintro g2 s r hl hf
 refine blk ?_
 obtain ⟨o5, l6, k1⟩ := bnk k0
 refine Ax (f := Bz a0 a1) (E := fun (x : Int) s => B6 [E_ 0 a0, I_ 1 a1, I_ 5 x] s ∧ s.low = low ∧ NoB MH s) (Q := fun (o : ((Int) ⊕ (Unit))) j s => match o with | .inl w4 => j = .ret ∧ FnJ Q7.1 low (.d (.int w4)) .ret s | .inr _ => j = .exit 0 ∧ B6 [] s ∧ s.low = low ∧ NoB MH s) l6 ?_ ⟨r, hl, hf⟩ ?_
 ·rintro x3 s out ⟨r, hl, hf⟩ k2
  unfold Bz at k2
  refine Ra hl hf ?_
  rintro g7 s r hl hf
  refine DW r.2.2.2.1 k2 (fun c8 k2 => ?_) fun c8 k2 => ?_
  ·refine blk ?_
   obtain ⟨v9, h10, k3⟩ := bnk k2
   refine Ra hl hf ?_
   rintro g11 s r hl hf
   refine DW r.2.2.2.1 k3 (fun c12 k3 => ?_) fun c12 k3 => ?_
   ·refine Ra hl hf ?_
    rintro g13 s r hl hf
    obtain rfl := oK k3
    exact ⟨by decide, ⟨rfl, ⟨Or.inr rfl, hl, AI (AK r.1)⟩⟩⟩
   refine Ra hl hf ?_
   rintro g14 s r hl hf
   obtain rfl := oK k3
   exact ⟨rfl, r, hl, hf⟩
  obtain rfl := oK k2
  exact ⟨by decide, ⟨rfl, trivial, hl, hf⟩⟩
 intro j s hq
 rcases o5 with w4 | _
 ·try dsimp only at k1 hq
  obtain ⟨rfl, hq⟩ := hq
  cases oK k1
  exact hq
 try dsimp only at k1 hq
 obtain ⟨rfl, -, hl, hf⟩ := hq
 refine Ra hl hf ?_
 rintro g15 s r hl hf
 cases oK k1
 exact ⟨Or.inr rfl, hl, AI (AK r.1)⟩
def MG := fun a0 a1 => Cq.mk (@YG a0 a1)
theorem X6 {a0 : BenchBook} {a1 : (Sl (Sl (Sl Int)))} {a2 : (Sl Int)} {a3 : (Sl AB)} {r : Bool} (k0 : Du a0 a1 a2 a3 = some r) : Fin zL 16 [zI.enc a0, zI.enc a1, zI.enc a2, zI.enc a3] (.bool r) := by
 unfold Du at k0; replace k0 := kq k0
 refine zU D7 IB ?_
 rintro low s r hl hf
 have q111 := @XE
 have q112 := @MG
 refine Ra hl hf ?_
 rintro g1 s r hl hf
 refine Ra hl hf ?_
 rintro g2 s r hl hf
 have q4 := @U7
 refine Ra hl hf ?_
 rintro g3 s r hl hf
 refine Ra hl hf ?_
 rintro g5 s r hl hf
 refine blk ?_
 obtain ⟨ze, l13, k1⟩ := bnk k0
 refine Ax (f := CW a0 a1 a2 a3) (E := fun (x : Int × (Ar 6 (Ar 4 Int)) × Int) s => B6 [E_ 1 a1, E_ 2 a2, E_ 3 a3, C_ 4 g1 a0, I_ 9 x.1, C_ 10 g3 x.2.1, I_ 11 x.2.2] s ∧ s.low = low ∧ NoB D7 s) (Q := fun (o : ((Bool) ⊕ (Int × (Ar 6 (Ar 4 Int))))) j s => match o with | .inl w9 => j = .ret ∧ FnJ IB.1 low (.d (.bool w9)) .ret s | .inr (y10, y11) => j = .exit 0 ∧ B6 [E_ 3 a3, C_ 4 g1 a0, I_ 9 y10, C_ 10 g3 y11] s ∧ s.low = low ∧ NoB D7 s) l13 ?_ ⟨r, hl, hf⟩ ?_
 ·rintro ⟨x6, x7, x8⟩ s out ⟨r, hl, hf⟩ k2
  dsimp only at r
  simp only [CW] at k2
  refine Ra hl hf ?_
  rintro g14 s r hl hf
  refine DW r.2.2.2.2.2.2.2.1 k2 (fun c15 k2 => ?_) fun c15 k2 => ?_
  ·refine blk ?_
   obtain ⟨v16, h17, k3⟩ := bnk k2
   obtain ⟨v18, h19, k4⟩ := bnk k3
   refine Ra hl hf ?_
   rintro g20 s r hl hf
   refine Ra hl hf ?_
   rintro g21 s r hl hf
   refine blk ?_
   obtain ⟨o29, l30, k5⟩ := bnk k4
   refine Ax (f := CX a0 a1 a2 a3 x8 v18) (E := fun (x : Int × (Ar 6 (Ar 4 Int)) × Int × Int) s => B6 [E_ 1 a1, E_ 2 a2, E_ 3 a3, C_ 4 g1 a0, I_ 9 x.1, C_ 10 g3 x.2.1, I_ 11 x8, C_ 12 (g20 + 1 + 1 + 1 + 1 + 1 + 1 + 1 + 1) v18, I_ 13 x.2.2.1, I_ 14 x.2.2.2] s ∧ s.low = low ∧ NoB D7 s) (Q := fun (o : ((Bool) ⊕ (Int × (Ar 6 (Ar 4 Int))))) j s => match o with | .inl w26 => j = .ret ∧ FnJ IB.1 low (.d (.bool w26)) .ret s | .inr (y27, y28) => j = .exit 2 ∧ B6 [E_ 1 a1, E_ 2 a2, E_ 3 a3, C_ 4 g1 a0, I_ 9 y27, C_ 10 g3 y28, I_ 11 x8, C_ 12 (g20 + 1 + 1 + 1 + 1 + 1 + 1 + 1 + 1) v18] s ∧ s.low = low ∧ NoB D7 s) l30 ?_ ⟨r, hl, hf⟩ ?_
   ·rintro ⟨x22, x23, x24, x25⟩ s out ⟨r, hl, hf⟩ k6
    dsimp only at r
    simp only [CX] at k6
    refine Ra hl hf ?_
    rintro g31 s r hl hf
    refine DW r.2.2.2.2.2.2.2.2.2.2.1 k6 (fun zj k6 => ?_) fun zj k6 => ?_
    ·refine blk <| Ra hl hf ?_
     rintro g33 s r hl hf
     refine Ra hl hf ?_
     rintro g34 s r hl hf
     refine blk ?_
     obtain ⟨o44, l45, k7⟩ := bnk k6
     refine Ax (f := A9 a0 a1 a2 a3 x8 v18 x25) (E := fun (x : Int × (Ar 6 (Ar 4 Int)) × Int × Int × Int) s => B6 [E_ 1 a1, E_ 2 a2, E_ 3 a3, C_ 4 g1 a0, I_ 9 x.1, C_ 10 g3 x.2.1, I_ 11 x8, C_ 12 (g20 + 1 + 1 + 1 + 1 + 1 + 1 + 1 + 1) v18, I_ 13 x.2.2.1, I_ 14 x25, I_ 15 x.2.2.2.1, I_ 16 x.2.2.2.2] s ∧ s.low = low ∧ NoB D7 s) (Q := fun (o : ((Bool) ⊕ (Int × (Ar 6 (Ar 4 Int)) × Int))) j s => match o with | .inl w40 => j = .ret ∧ FnJ IB.1 low (.d (.bool w40)) .ret s | .inr (y41, y42, y43) => j = .exit 4 ∧ B6 [E_ 1 a1, E_ 2 a2, E_ 3 a3, C_ 4 g1 a0, I_ 9 y41, C_ 10 g3 y42, I_ 11 x8, C_ 12 (g20 + 1 + 1 + 1 + 1 + 1 + 1 + 1 + 1) v18, I_ 13 y43, I_ 14 x25] s ∧ s.low = low ∧ NoB D7 s) l45 ?_ ⟨r, hl, hf⟩ ?_
     ·rintro ⟨x35, x36, x37, x38, x39⟩ s out ⟨r, hl, hf⟩ k8
      dsimp only at r
      simp only [A9] at k8
      obtain ⟨v46, h47, k9⟩ := bnk k8
      refine Ra hl hf ?_
      rintro g48 s r hl hf
      refine DW r.2.2.2.2.2.2.2.2.2.2.2.2.1 k9 (fun zh k9 => ?_) fun zh k9 => ?_
      ·refine blk ?_
       obtain ⟨o56, q, k10⟩ := bnk k9
       try clear h62
       try clear h17
       refine Rq (fun g58 => [B_ 73 o56]) hl hf q ?_
       rintro g58 s r hl hf
       refine DW r.2.2.2.2.2.2.2.2.2.2.2.2.1 k10 (fun zX k10 => ?_) fun zX k10 => ?_
       ·refine Ra hl hf ?_
        rintro g60 s r hl hf
        obtain rfl := oK k10
        exact ⟨by decide, ⟨rfl, ⟨Or.inr rfl, hl, AI (AK r.1)⟩⟩⟩
       obtain ⟨v61, h62, k11⟩ := bnk k10
       refine Ra hl hf ?_
       rintro g63 s r hl hf
       obtain ⟨o76, q, k12⟩ := bnk k11
       try clear h17
       refine Rq (fun g78 => [B_ 101 o76]) hl hf q ?_
       rintro g78 s r hl hf
       refine DW r.2.2.2.2.2.2.2.2.2.2.2.2.1 k12 (fun c79 k12 => ?_) fun c79 k12 => ?_
       ·refine Ra hl hf ?_
        rintro g80 s r hl hf
        obtain rfl := oK k12
        exact ⟨by decide, ⟨rfl, ⟨Or.inr rfl, hl, AI (AK r.1)⟩⟩⟩
       obtain ⟨v81, h82, k13⟩ := bnk k12
       obtain ⟨v83, h84, k14⟩ := bnk k13
       have q86 := Fp h82
       have q87 := Fp h84
       refine Ra hl hf ?_
       rintro g85 s r hl hf
       obtain ⟨v88, h89, k15⟩ := bnk k14
       obtain ⟨v90, h91, k16⟩ := bnk k15
       have q93 := EG h89
       have q94 := EG h91
       have q95 := kf h89 h91
       have q96 := ub h89 h91
       refine Ra hl hf ?_
       rintro g92 s r hl hf
       obtain ⟨v97, h98, k17⟩ := bnk k16
       obtain ⟨v99, h100, k18⟩ := bnk k17
       have q102 := EG h98
       have q103 := EG h100
       have q104 := kf h98 h100
       refine Ra hl hf ?_
       rintro g101 s r hl hf
       refine DW r.2.2.2.2.2.2.2.2.2.2.2.2.1 k18 (fun c105 k18 => ?_) fun c105 k18 => ?_
       ·refine Ra hl hf ?_
        rintro g106 s r hl hf
        obtain rfl := oK k18
        exact ⟨by decide, ⟨rfl, ⟨Or.inr rfl, hl, AI (AK r.1)⟩⟩⟩
       refine Ra hl hf ?_
       rintro g107 s r hl hf
       obtain rfl := oK k18
       exact ⟨rfl, r, hl, hf⟩
      obtain rfl := oK k9
      exact ⟨by decide, ⟨rfl, ⟨r.1, r.2.1, r.2.2.1, r.2.2.2.1, r.2.2.2.2.1, r.2.2.2.2.2.1, r.2.2.2.2.2.2.1, r.2.2.2.2.2.2.2.1, r.2.2.2.2.2.2.2.2.1, r.2.2.2.2.2.2.2.2.2.1, trivial⟩, hl, hf⟩⟩
     intro j s hq
     rcases o44 with w40 | ⟨y41, y42, y43⟩
     ·try dsimp only at k7 hq
      obtain ⟨rfl, hq⟩ := hq
      obtain rfl := oK k7
      exact ⟨by decide, ⟨rfl, hq⟩⟩
     try dsimp only at k7 hq
     obtain ⟨rfl, r, hl, hf⟩ := hq
     refine Ra hl hf ?_
     rintro g108 s r hl hf
     obtain rfl := oK k7
     exact ⟨rfl, r, hl, hf⟩
    obtain rfl := oK k6
    exact ⟨by decide, ⟨rfl, ⟨r.1, r.2.1, r.2.2.1, r.2.2.2.1, r.2.2.2.2.1, r.2.2.2.2.2.1, r.2.2.2.2.2.2.1, r.2.2.2.2.2.2.2.1, trivial⟩, hl, hf⟩⟩
   intro j s hq
   rcases o29 with w26 | ⟨y27, y28⟩
   ·try dsimp only at k5 hq
    obtain ⟨rfl, hq⟩ := hq
    obtain rfl := oK k5
    exact ⟨by decide, ⟨rfl, hq⟩⟩
   try dsimp only at k5 hq
   obtain ⟨rfl, r, hl, hf⟩ := hq
   refine Ra hl hf ?_
   rintro g109 s r hl hf
   obtain rfl := oK k5
   exact ⟨rfl, r, hl, hf⟩
  obtain rfl := oK k2
  exact ⟨by decide, ⟨rfl, ⟨r.2.2.1, r.2.2.2.1, r.2.2.2.2.1, r.2.2.2.2.2.1, trivial⟩, hl, hf⟩⟩
 intro j s hq
 rcases ze with w9 | ⟨y10, y11⟩
 ·try dsimp only at k1 hq
  obtain ⟨rfl, hq⟩ := hq
  cases oK k1
  exact hq
 try dsimp only at k1 hq
 obtain ⟨rfl, r, hl, hf⟩ := hq
 refine Ra hl hf ?_
 rintro g110 s r hl hf
 cases oK k1
 exact ⟨Or.inr rfl, hl, AI (AK r.1)⟩
def KV := fun a0 a1 a2 a3 => Cq.mk (@X6 a0 a1 a2 a3)
theorem Xh (a0 : Int) (a1 : Int) : Fin zL 89 [.int a0, .int a1] (zI.enc (D1 a0 a1)) := by
 refine zU YH ZC ?_
 rintro low s r hl hf
 have q2 := @uS
 refine Ra hl hf ?_
 rintro g1 s r hl hf
 have q4 := @UG
 refine Ra hl hf ?_
 rintro g3 s r hl hf
 exact ⟨Or.inr rfl, hl, AI (Cj r.1 rfl)⟩
def Pi := fun a0 a1 => (Xh a0 a1).call
theorem dC (a0 : Int) : Fin zL 90 [.int a0] (zI.enc (O8 a0)) := by
 refine zU gh fX ?_
 rintro low s r hl hf
 have q2 := @uS
 refine Ra hl hf ?_
 rintro g1 s r hl hf
 have q4 := @UG
 refine Ra hl hf ?_
 rintro g3 s r hl hf
 exact ⟨Or.inr rfl, hl, AI (Cj r.1 rfl)⟩
def gG := fun a0 => (dC a0).call
theorem WW (a0 : (Sl AM)) : Fin zL 79 [zI.enc a0] (zI.enc (Tz a0)) := by
 refine zU YX Yv ?_
 rintro low s r hl hf
 have q4 := @Pi
 have q5 := @gG
 have q2 := @ip
 refine Ra hl hf ?_
 rintro g1 s r hl hf
 refine Ra hl hf ?_
 rintro g3 s r hl hf
 exact ⟨Or.inr rfl, hl, AI (Cj r.1 rfl)⟩
def Yk := fun a0 => (WW a0).call
theorem hT (a0 : Int) (a1 : Int) : Fin zL 80 [.int a0, .int a1] (zI.enc (Nu a0 a1)) := by
 refine zU ii jC ?_
 rintro low s r hl hf
 have q4 := @Pi
 have q2 := @jD
 refine Ra hl hf ?_
 rintro g1 s r hl hf
 refine Ra hl hf ?_
 rintro g3 s r hl hf
 exact ⟨Or.inr rfl, hl, AI (Cj r.1 rfl)⟩
def jK := fun a0 a1 => (hT a0 a1).call
theorem I3 (a0 : Int) (a1 : Int) (a2 : (Sl AM)) : Fin zL 60 [.int a0, .int a1, zI.enc a2] (zI.enc (O5 a0 a1 a2)) := by
 refine zU fH iJ ?_
 rintro low s r hl hf
 have q4 := @jK
 have q5 := @Yk
 have q2 := @MJ
 refine Ra hl hf ?_
 rintro g1 s r hl hf
 refine Ra hl hf ?_
 rintro g3 s r hl hf
 exact ⟨Or.inr rfl, hl, AI (Cj r.1 rfl)⟩
def t9 := fun a0 a1 a2 => (I3 a0 a1 a2).call
theorem fB : Fin zL 36 [] (zI.enc (B1)) := by
 refine zU jd jT ?_
 rintro low s - hl hf
 have q2 := @MJ
 refine Ra hl hf ?_
 rintro g1 s r hl hf
 have q4 := Fin.call (LP := zL) (ds := [.int 1, .int 20, .nils]) (I3 1 20 (Sl.nil : (Sl AM)))
 refine Ra hl hf ?_
 rintro g3 s r hl hf
 exact ⟨Or.inr rfl, hl, AI (Cj r.1 rfl)⟩
def jX := fB.call
theorem bg : Fin zL 37 [] (zI.enc (Fz)) := by
 refine zU eh gI ?_
 rintro low s - hl hf
 have q2 := @MJ
 refine Ra hl hf ?_
 rintro g1 s r hl hf
 have q4 := Fin.call (LP := zL) (ds := [.int 1, .int 24, .nils]) (I3 1 24 (Sl.nil : (Sl AM)))
 refine Ra hl hf ?_
 rintro g3 s r hl hf
 exact ⟨Or.inr rfl, hl, AI (Cj r.1 rfl)⟩
def fj := bg.call
theorem P7 {a0 : AC} {a1 : (Sl AH)} {r : ((Sl AB) × Bool)} (k0 : CB a0 a1 = some r) : Fin zL 53 [zI.enc a0, zI.enc a1] (zI.enc r) := by
 unfold CB at k0; replace k0 := kq k0
 refine zU E8 Ri ?_
 rintro low s ⟨r0, r1, -⟩ hl hf
 refine Ra hl hf ?_
 rintro g1 s ⟨r1, r2, r4, r5, -⟩ hl hf
 obtain ⟨c2, hc2⟩ := Ie (LP := zL) (ds := [zI.enc a0, zI.enc a1]) (fun low => Hw (low := low) a0 a1); simp only [List.map_cons, List.map_nil] at hc2
 have q4 := @hc2
 refine Ra hl hf ?_
 rintro g3 s ⟨r4, r5, r9, -⟩ hl hf
 refine blk ?_
 obtain ⟨⟨_, o10⟩, l11, k3⟩ := bnk k0
 refine Run.rng (B := E8) (base := low) (n := 65) (a := []) (b := [.d (.fptr (zI.cells a0) 0), .d (.fptr [zI.enc a1] 0)]) (jm := fun (x : (Sl AB)) => match x with | _ => zR.ret) (l := fun (o : (Unit) ⊕ (Sl AB)) => match o with | .inl _ => [(4, .box (g1 + 1) [.d (zI.enc (Sl.nil : (Sl AB)))]), (5, .box (g1 + 1 + 1) [.d (.bool false)]), (9, .v (.d (.fn 65 [] [.fptr (zI.cells a0) 0, .fptr [zI.enc a1] 0])))] | .inr y6 => [(4, .box (g1 + 1) [Sl.lv y6]), (5, .box (g1 + 1 + 1) [.d (.bool true)]), (9, .v (.d (.fn 65 [] [.fptr (zI.cells a0) 0, .fptr [zI.enc a1] 0])))]) (t0 := ()) (st' := o10) (v := .d (.tup [])) hl hf (by simp only [Nj, Jb, Fe, r9, IY, Oa, Q1, Vd, List.map_cons, List.map_nil]) ⟨r4, r5, r9, trivial⟩ ?_ ?_
 ·intro g low1 hc
  refine E6 (R := rj E8 low g [10] _ _ (fun (x : (Sl AB)) => match x with | _ => zR.ret) (fun (o : (Unit) ⊕ (Sl AB)) => match o with | .inl _ => [(4, .box (g1 + 1) [.d (zI.enc (Sl.nil : (Sl AB)))]), (5, .box (g1 + 1 + 1) [.d (.bool false)]), (9, .v (.d (.fn 65 [] [.fptr (zI.cells a0) 0, .fptr [zI.enc a1] 0])))] | .inr y6 => [(4, .box (g1 + 1) [Sl.lv y6]), (5, .box (g1 + 1 + 1) [.d (.bool true)]), (9, .v (.d (.fn 65 [] [.fptr (zI.cells a0) 0, .fptr [zI.enc a1] 0])))])) (fun st l h => Vb st l h) ?_  hc l11
  refine H5 (by decide) (fun _ => rfl) ?_
  rintro a5 _ out k1 e above low0 lw lp s hr ha hr0 hBB hl hf
  obtain ⟨e4, e5, e9, -⟩ := hr0
  have r4 : s.raw 4 = some (.v (.ptr low.length 4 (g1 + 1) 0)) := hr 4 _ rfl e4
  have r5 : s.raw 5 = some (.v (.ptr low.length 5 (g1 + 1 + 1) 0)) := hr 5 _ rfl e5
  have r9 : s.raw 9 = some (.v (.d (.fn 65 [] [.fptr (zI.cells a0) 0, .fptr [zI.enc a1] 0]))) := hr 9 _ rfl e9
  obtain ⟨r10, -⟩ := ha
  unfold Da at k1
  replace k1 := kq k1
  refine Nx.run <| Ra hl hf ?_
  rintro g7 s ⟨r4, r5, r6, -⟩ hl hf
  refine ⟨rfl, hl, ?_⟩
  intro s2 hraw hl
  replace r4 := (hraw 4).trans r4
  replace r5 := (hraw 5).trans r5
  replace r6 := (hraw 6).trans r6
  replace hf := NoB.congr hf hraw
  clear hraw
  obtain ⟨s, hs⟩ : ∃ q, q = s2 := ⟨_, rfl⟩
  rw [← hs] at r4 r5 r6 hl hf
  rw [← hs]
  clear hs s2
  have hB := hBB
  obtain ⟨m4, m5, m9, -⟩ := IE.all hB
  have hlt : low.length < lw.length := by have := IE.len hB; omega
  refine Nx.run <| blk ?_
  obtain ⟨v8, h9, k2⟩ := bnk k1
  refine regS (B := E8) (low := lw) (Q := fun q => q = (CE (CE lw low.length 4 (.box (g1 + 1) [Sl.lv v8])) low.length 5 (.box (g1 + 1 + 1) [.d (.bool true)]))) [] hl hf ?_ ?_
  ·simp only [rs, IV, Gl, FH, KH, KA, hl, nob hf, r4, r5, r6, m4, m5, m9, hlt, (LQ (sz := 3) rfl h9), (Tu (x := v8)), (Lt (v := .bool true)), reduceCtorEq, Nat.reduceEqDiff, Nat.reduceAdd]
  rintro s - hl hf
  replace hl : s.low = (CE (CE lw low.length 4 (.box (g1 + 1) [Sl.lv v8])) low.length 5 (.box (g1 + 1 + 1) [.d (.bool true)])) := hl
  replace hB := IE.set (l' := [(4, .box (g1 + 1) [Sl.lv v8]), (5, .box (g1 + 1 + 1) [.d (.bool false)]), (9, .v (.d (.fn 65 [] [.fptr (zI.cells a0) 0, .fptr [zI.enc a1] 0])))]) hB 4 _ rfl (fun s ⟨q4, q5, q9, _⟩ => ⟨(by rw [Ag, if_pos rfl]), (by rw [Ag, if_neg (by decide)]; exact q5), (by rw [Ag, if_neg (by decide)]; exact q9), trivial⟩)
  replace hB := IE.set (l' := [(4, .box (g1 + 1) [Sl.lv v8]), (5, .box (g1 + 1 + 1) [.d (.bool true)]), (9, .v (.d (.fn 65 [] [.fptr (zI.cells a0) 0, .fptr [zI.enc a1] 0])))]) hB 5 _ rfl (fun s ⟨q4, q5, q9, _⟩ => ⟨(by rw [Ag, if_neg (by decide)]; exact q4), (by rw [Ag, if_pos rfl]), (by rw [Ag, if_neg (by decide)]; exact q9), trivial⟩)
  obtain ⟨lw, hlow⟩ : ∃ q, q = (CE (CE lw low.length 4 (.box (g1 + 1) [Sl.lv v8])) low.length 5 (.box (g1 + 1 + 1) [.d (.bool true)])) := ⟨_, rfl⟩
  rw [← hlow] at hl hB
  obtain ⟨m4, m5, m9, -⟩ := IE.all hB
  have hlt : low.length < lw.length := by have := IE.len hB; omega
  obtain rfl := oK k2
  exact ⟨rfl, rfl, (show zR.ret ≠ zR.normal by decide), by rw [hl]; exact NZ hB (fun s ⟨q4, q5, q9, _⟩ => ⟨q4, q5, q9, trivial⟩)⟩
 ·intro s hl hf hq
  rcases o10 with _ | y6
  ·try dsimp only at k3 hq
   obtain ⟨r4, r5, r9, -⟩ := hq
   refine nX ?_
   have q13 := @i6
   refine Ra hl hf ?_
   rintro g12 s ⟨r4, r5, -⟩ hl hf
   cases oK k3
   exact ⟨Or.inr rfl, hl, BS (HA r4) (HA r5)⟩
  ·try dsimp only at k3 hq
   obtain ⟨r4, r5, r9, -⟩ := hq
   refine nX ?_
   cases oK k3
   exact ⟨Or.inr rfl, hl, BS (W5 r4) (HA r5)⟩
def G9 := fun a0 a1 => Cq.mk (@P7 a0 a1)
theorem dE {a0 : BenchBook} {a1 : Int} {r : (Int × Int)} (k0 : Hz a0 a1 = some r) : Fin zL 31 [zI.enc a0, .int a1] (zI.enc r) := by
 unfold Hz at k0; replace k0 := kq k0
 refine zU OZ UF ?_
 rintro low s r hl hf
 have q28 := @Dy
 have q29 := @G9
 have q30 := @Dt
 have q31 := @Ja
 refine Ra hl hf ?_
 rintro g1 s r hl hf
 obtain ⟨v2, h3, k1⟩ := bnk k0
 refine Ra hl hf ?_
 rintro g4 s r hl hf
 refine Ra hl hf ?_
 rintro g5 s r hl hf
 refine Kw r.2.2.2.2.1 k1 (fun c6 k1 => ?_) fun c6 k1 => ?_
 ·obtain ⟨v7, h8, k2⟩ := bnk k1
  refine Ra hl hf ?_
  rintro g9 s r hl hf
  refine blk ?_
  obtain ⟨ze, l13, k3⟩ := bnk k2
  refine Ax (f := Fo a1 v2 v7) (E := fun (x : Int) s => B6 [I_ 1 a1, C_ 6 (g4 + 1 + 1 + 1 + 1 + 1 + 1 + 1 + 1) v2.1, I_ 28 v7.Parts.len, I_ 29 x] s ∧ s.low = low ∧ NoB OZ s) (Q := fun (o : ((Int × Int) ⊕ (Unit))) j s => match o with | .inl w11 => j = .ret ∧ FnJ UF.1 low (.d (zI.enc w11)) .ret s | .inr _ => j = .exit 0 ∧ B6 [C_ 6 (g4 + 1 + 1 + 1 + 1 + 1 + 1 + 1 + 1) v2.1] s ∧ s.low = low ∧ NoB OZ s) l13 ?_ ⟨r, hl, hf⟩ ?_
  ·rintro x10 s out ⟨r, hl, hf⟩ k4
   unfold Fo at k4
   refine Ra hl hf ?_
   rintro g14 s r hl hf
   refine DW r.2.2.2.2.1 k4 (fun c15 k4 => ?_) fun c15 k4 => ?_
   ·refine blk <| Ra hl hf ?_
    rintro g16 s r hl hf
    obtain ⟨v17, h18, k5⟩ := bnk k4
    obtain ⟨v19, h20, k6⟩ := bnk k5
    refine Ra hl hf ?_
    rintro g21 s r hl hf
    refine Ra hl hf ?_
    rintro g22 s r hl hf
    refine Kw r.2.2.2.2.2.1 k6 (fun c23 k6 => ?_) fun c23 k6 => ?_
    ·refine Ra hl hf ?_
     rintro g24 s r hl hf
     obtain rfl := oK k6
     exact ⟨rfl, r, hl, hf⟩
    refine Ra hl hf ?_
    rintro g25 s r hl hf
    obtain rfl := oK k6
    exact ⟨by decide, ⟨rfl, ⟨Or.inr rfl, hl, BS (AK r.1) (AK r.2.1)⟩⟩⟩
   obtain rfl := oK k4
   exact ⟨by decide, ⟨rfl, ⟨r.2.1, trivial⟩, hl, hf⟩⟩
  intro j s hq
  rcases ze with w11 | _
  ·try dsimp only at k3 hq
   obtain ⟨rfl, hq⟩ := hq
   cases oK k3
   exact hq
  try dsimp only at k3 hq
  obtain ⟨rfl, r, hl, hf⟩ := hq
  refine Ra hl hf ?_
  rintro g26 s r hl hf
  cases oK k3
  exact ⟨Or.inr rfl, hl, BS (AK r.1) (AK r.2.1)⟩
 refine Ra hl hf ?_
 rintro g27 s r hl hf
 cases oK k1
 exact ⟨Or.inr rfl, hl, BS (AK r.1) (AK r.2.1)⟩
def T8 := fun a0 a1 => Cq.mk (@dE a0 a1)
theorem cH (a0 : Int) (a1 : Int) (a2 : Int) : Fin zL 42 [.int a0, .int a1, .int a2] (zI.enc (BG a0 a1 a2)) := by
 refine zU eX dT ?_
 rintro low s r hl hf
 have q2 := @jl
 refine Ra hl hf ?_
 rintro g1 s r hl hf
 have q4 := @Iy
 refine Ra hl hf ?_
 rintro g3 s r hl hf
 exact ⟨Or.inr rfl, hl, AI (Cj r.1 rfl)⟩
def OG := fun a0 a1 a2 => (cH a0 a1 a2).call
theorem ZQ : Fin zL 38 [] (zI.enc (GV)) := by
 refine zU dA bG ?_
 rintro low s - hl hf
 have q3 := @OG
 refine Ra hl hf ?_
 rintro g1 s - hl hf
 refine Ra hl hf ?_
 rintro g2 s r hl hf
 exact ⟨Or.inr rfl, hl, AI (Ob r.1)⟩
def cK := ZQ.call
theorem cX : Fin zL 39 [] (zI.enc (Ha)) := by
 refine zU ec eS ?_
 rintro low s - hl hf
 have q2 := @MJ
 refine Ra hl hf ?_
 rintro g1 s r hl hf
 have q4 := Fin.call (LP := zL) (ds := [.int 2, .int 20, .nils]) (I3 2 20 (Sl.nil : (Sl AM)))
 refine Ra hl hf ?_
 rintro g3 s r hl hf
 exact ⟨Or.inr rfl, hl, AI (Cj r.1 rfl)⟩
def ep := cX.call
theorem FB {a0 : AC} {a1 : (Sl Int)} {r : (Sl Int)} (k0 : Cc a0 a1 = some r) : Fin zL 54 [zI.enc a0, zI.enc a1] (zI.enc r) := by
 unfold Cc at k0; replace k0 := kq k0
 refine zU Hv TZ ?_
 rintro low s r hl hf
 have q23 := @Lc
 refine Ra hl hf ?_
 rintro g1 s r hl hf
 refine Ra hl hf ?_
 rintro g2 s r hl hf
 refine Ra hl hf ?_
 rintro g3 s r hl hf
 refine blk ?_
 obtain ⟨o7, l8, k1⟩ := bnk k0
 refine Ax (f := Ci a0 a1) (E := fun (x : (Sl Int) × Int) s => B6 [E_ 1 a1, (5, .v (Sl.lv x.1)), I_ 10 a0.BenchBook.Pieces.len, I_ 11 x.2] s ∧ s.low = low ∧ NoB Hv s) (Q := fun (y6 : (Sl Int)) j s => j = .exit 0 ∧ B6 [(5, .v (Sl.lv y6))] s ∧ s.low = low ∧ NoB Hv s) l8 ?_ ⟨r, hl, hf⟩ ?_
 ·rintro ⟨x4, x5⟩ s out ⟨r, hl, hf⟩ k2
  dsimp only at r
  simp only [Ci] at k2
  refine Ra hl hf ?_
  rintro g9 s r hl hf
  refine DW r.2.2.2.2.1 k2 (fun c10 k2 => ?_) fun c10 k2 => ?_
  ·refine blk <| Ra hl hf ?_
   rintro g11 s r hl hf
   obtain ⟨v12, h13, k3⟩ := bnk k2
   refine Ra hl hf ?_
   rintro g14 s r hl hf
   refine Kw r.2.2.2.2.2.1 k3 (fun c15 k3 => ?_) fun c15 k3 => ?_
   ·refine Ra hl hf ?_
    rintro g16 s r hl hf
    obtain rfl := oK k3
    exact ⟨rfl, r, hl, hf⟩
   obtain ⟨v17, h18, k4⟩ := bnk k3
   have q20 := E5 (sz := 1) (x := x4) (y := (Sl.cold [x5] : Sl Int)) rfl rfl h18
   refine Ra hl hf ?_
   rintro g19 s r hl hf
   refine Ra hl hf ?_
   rintro g21 s r hl hf
   obtain rfl := oK k4
   exact ⟨rfl, r, hl, hf⟩
  obtain rfl := oK k2
  exact ⟨by decide, ⟨rfl, ⟨r.2.1, trivial⟩, hl, hf⟩⟩
 intro j s hq
 obtain ⟨y6, rfl⟩ : ∃ x, x = o7 := ⟨_, rfl⟩
 try dsimp only at k1 hq
 obtain ⟨rfl, r, hl, hf⟩ := hq
 refine Ra hl hf ?_
 rintro g22 s r hl hf
 cases oK k1
 exact ⟨Or.inr rfl, hl, AI (Ob r.1)⟩
def TI := fun a0 a1 => Cq.mk (@FB a0 a1)
theorem cw {a0 : BenchBook} {r : (Int × Int)} (k0 : Hu a0 = some r) : Fin zL 23 [zI.enc a0] (zI.enc r) := by
 unfold Hu at k0; replace k0 := kq k0
 refine zU KB ef ?_
 rintro low s ⟨r0, -⟩ hl hf
 have q22 := @Dy
 have q23 := @Dt
 refine Ra hl hf ?_
 rintro g1 s ⟨r1, r2, r3, -⟩ hl hf
 obtain ⟨v2, h3, k1⟩ := bnk k0
 refine Ra hl hf ?_
 rintro g4 s ⟨r2, r3, r4, r5, -⟩ hl hf
 refine Ra hl hf ?_
 rintro g5 s ⟨r2, r3, r4, r5, r13, -⟩ hl hf
 refine Kw r13 k1 (fun c6 k1 => ?_) fun c6 k1 => ?_
 ·refine Ra hl hf ?_
  rintro g7 s ⟨r2, r3, r4, r6, -⟩ hl hf
  obtain ⟨v8, h9, k2⟩ := bnk k1
  obtain ⟨v10, h11, k3⟩ := bnk k2
  have q13 := Fin.call (LP := zL) (ds := [zI.enc v2.1, .nils]) (FB h9)
  have q14 := Fin.call (LP := zL) (ds := [zI.enc v2.1, zI.enc v10]) (fun low => Hw (low := low) v2.1 v10)
  refine Ra hl hf ?_
  rintro g12 s ⟨r2, r3, r6, r20, -⟩ hl hf
  refine blk ?_
  obtain ⟨⟨_, o17⟩, l18, k5⟩ := bnk k3
  refine Run.rng (B := KB) (base := low) (n := 65) (a := []) (b := [.d (.fptr (zI.cells v2.1) 0), .d (.fptr [zI.enc v10] 0)]) (jm := fun (_ : Unit) => zR.ret) (l := fun (o : (Int) ⊕ (Unit)) => match o with | .inl x16 => [(2, .v (.d (.int 0))), (3, .v (.d (.int 0))), (6, .box g7 [.d (.int x16)]), (20, .v (.d (.fn 65 [] [.fptr (zI.cells v2.1) 0, .fptr [zI.enc v10] 0])))] | .inr _ => []) (t0 := 0) (st' := o17) (v := .d (.tup [])) hl hf (by simp only [Nj, Jb, Fe, r20, IY, Oa, Q1, Vd, List.map_cons, List.map_nil]) ⟨r2, r3, r6, r20, trivial⟩ ?_ ?_
  ·intro g low1 hc
   refine E6 (R := rj KB low g [21] _ _ (fun (_ : Unit) => zR.ret) (fun (o : (Int) ⊕ (Unit)) => match o with | .inl x16 => [(2, .v (.d (.int 0))), (3, .v (.d (.int 0))), (6, .box g7 [.d (.int x16)]), (20, .v (.d (.fn 65 [] [.fptr (zI.cells v2.1) 0, .fptr [zI.enc v10] 0])))] | .inr _ => [])) (fun st l h => Vb st l h) ?_  hc l18
   refine H5 (by decide) (fun _ => rfl) ?_
   rintro a15 x16 out k4 e above low0 lw lp s hr ha hr0 hBB hl hf
   obtain ⟨e2, e3, e6, e20, -⟩ := hr0
   have r2 : s.raw 2 = some (.v (.d (.int 0))) := hr 2 _ rfl e2
   have r3 : s.raw 3 = some (.v (.d (.int 0))) := hr 3 _ rfl e3
   have r6 : s.raw 6 = some (.v (.ptr low.length 6 g7 0)) := hr 6 _ rfl e6
   have r20 : s.raw 20 = some (.v (.d (.fn 65 [] [.fptr (zI.cells v2.1) 0, .fptr [zI.enc v10] 0]))) := hr 20 _ rfl e20
   obtain ⟨r21, -⟩ := ha
   unfold HL at k4
   replace k4 := kq k4
   refine Nx.run <| ⟨rfl, hl, ?_⟩
   intro s2 hraw hl
   replace r2 := (hraw 2).trans r2
   replace r3 := (hraw 3).trans r3
   replace r6 := (hraw 6).trans r6
   replace r20 := (hraw 20).trans r20
   replace r21 := (hraw 21).trans r21
   replace hf := NoB.congr hf hraw
   clear hraw
   obtain ⟨s, hs⟩ : ∃ q, q = s2 := ⟨_, rfl⟩
   rw [← hs] at r2 r3 r6 r20 r21 hl hf
   rw [← hs]
   clear hs s2
   have hB := hBB
   obtain ⟨m2, m3, m6, m20, -⟩ := IE.all hB
   have hlt : low.length < lw.length := by have := IE.len hB; omega
   refine Nx.run <| blk <| regS (B := KB) (low := lw) (Q := fun q => q = (CE lw low.length 6 (.box g7 [.d (.int (W (x16 + 1)))]))) [] hl hf ?_ ?_
   ·simp only [rs, IV, Gl, FH, KH, KA, JD, hl, nob hf, r2, r3, r6, r20, r21, m2, m3, m6, m20, hlt, (Lt (v := .int (W (x16 + 1)))), reduceCtorEq, Nat.reduceEqDiff, Nat.reduceAdd]
   rintro s - hl hf
   replace hl : s.low = (CE lw low.length 6 (.box g7 [.d (.int (W (x16 + 1)))])) := hl
   replace hB := IE.set (l' := [(2, .v (.d (.int 0))), (3, .v (.d (.int 0))), (6, .box g7 [.d (.int (W (x16 + 1)))]), (20, .v (.d (.fn 65 [] [.fptr (zI.cells v2.1) 0, .fptr [zI.enc v10] 0])))]) hB 6 _ rfl (fun s ⟨q2, q3, q6, q20, _⟩ => ⟨(by rw [Ag, if_neg (by decide)]; exact q2), (by rw [Ag, if_neg (by decide)]; exact q3), (by rw [Ag, if_pos rfl]), (by rw [Ag, if_neg (by decide)]; exact q20), trivial⟩)
   obtain ⟨lw, hlow⟩ : ∃ q, q = (CE lw low.length 6 (.box g7 [.d (.int (W (x16 + 1)))])) := ⟨_, rfl⟩
   rw [← hlow] at hl hB
   obtain ⟨m2, m3, m6, m20, -⟩ := IE.all hB
   have hlt : low.length < lw.length := by have := IE.len hB; omega
   obtain rfl := oK k4
   exact ⟨rfl, rfl, by rw [hl]; exact NZ hB (fun s ⟨q2, q3, q6, q20, _⟩ => ⟨q2, q3, q6, q20, trivial⟩)⟩
  ·intro s hl hf hq
   rcases o17 with y19 | _
   ·try dsimp only at k5 hq
    obtain ⟨r2, r3, r6, r20, -⟩ := hq
    refine nX <| Ra hl hf ?_
    rintro g20 s ⟨r2, r3, -⟩ hl hf
    cases oK k5
    exact ⟨Or.inr rfl, hl, BS (AK r2) (AK r3)⟩
   ·cases k5
 refine Ra hl hf ?_
 rintro g21 s ⟨r2, r3, -⟩ hl hf
 cases oK k1
 exact ⟨Or.inr rfl, hl, BS (AK r2) (AK r3)⟩
def OS := fun a0 => Cq.mk (@cw a0)
theorem Ks (n : Nat) : ∀ (low : List Fr) (a0 : (Sl Int)) (a1 : Int) (a2x : AC) (pja2 : Nat) (pta2 : Nat) (pga2 : Nat) (pja3 : Nat) (pta3 : Nat) (pga3 : Nat), IH low pja2 pta2 = some (.box pga2 ((zI.cells a2x).map LV.d)) → IH low pja3 pta3 = some (.box pga3 [.fn 74 [] [.ptr pja2 pta2 pga2 0, .ptr pja3 pta3 pga3 0]]) → ∀ r : (T3 (Sl Int) (Sl AB) Bool), Am n a0 a1 a2x = some r → LL zL 74 [.d (zI.enc a0), .d (.int a1), .ptr pja2 pta2 pga2 0, .ptr pja3 pta3 pga3 0] low (.d (zI.enc r)) := by
 induction n with
 | zero => intro low a0 a1 a2x pja2 pta2 pga2 pja3 pta3 pga3 ba2 ba3 r k0; simp [Am] at k0
 | succ n ih =>
  intro low a0 a1 a2x pja2 pta2 pga2 pja3 pta3 pga3 ba2 ba3 r k0
  simp only [Am] at k0; replace k0 := kq k0
  refine jH Dh HU ?_
  rintro s r hl hf
  have q52 := @TI
  have q53 := @G9
  have q54 := @Dt
  refine Ra hl hf ?_
  rintro g1 s r hl hf
  refine Ra hl hf ?_
  rintro g2 s r hl hf
  refine Ra hl hf ?_
  rintro g3 s r hl hf
  refine DW r.2.2.2.2.2.1 k0 (fun c4 k0 => ?_) fun c4 k0 => ?_
  ·obtain ⟨v5, h6, k1⟩ := bnk k0
   obtain ⟨v7, h8, k2⟩ := bnk k1
   obtain ⟨v9, h10, k3⟩ := bnk k2
   have q12 := Ef ba2
   have q13 := Ef ba2
   have q14 := Ef ba2
   refine Ra hl hf ?_
   rintro g11 s r hl hf
   refine Ra hl hf ?_
   rintro g15 s r hl hf
   cases oK k3
   exact ⟨Or.inr rfl, hl, Xg (AK r.1) (AK r.2.1) (AK r.2.2.1)⟩
  refine Ra hl hf ?_
  rintro g16 s r hl hf
  refine Ra hl hf ?_
  rintro g17 s r hl hf
  obtain ⟨o19, k4, k5⟩ := bnk k0
  replace k4 := kq k4
  refine zA (Q := (fun (y18 : Int) j s => j = .normal ∧ B6 [E_ 0 a0, I_ 1 a1, (2, .v (.ptr pja2 pta2 pga2 0)), (3, .v (.ptr pja3 pta3 pga3 0)), I_ 9 a0.len, I_ 12 y18] s ∧ s.low = low ∧ NoB Dh s) o19) ?_ ?_
  ·refine DW r.2.2.2.2.2.2.1 k4 (fun c20 k4 => ?_) fun c20 k4 => ?_
   ·obtain ⟨v21, h22, k6⟩ := bnk k4
    refine Ra hl hf ?_
    rintro g23 s r hl hf
    obtain rfl := oK k6
    exact ⟨rfl, r, hl, hf⟩
   obtain rfl := oK k4
   exact ⟨rfl, ⟨r.1, r.2.1, r.2.2.1, r.2.2.2.1, r.2.2.2.2.1, r.2.2.2.2.2.1, trivial⟩, hl, hf⟩
  intro j s hq
  obtain ⟨y18, rfl⟩ : ∃ x, x = o19 := ⟨_, rfl⟩
  try dsimp only at k5 hq
  obtain ⟨rfl, r, hl, hf⟩ := hq
  refine Ra hl hf ?_
  rintro g24 s r hl hf
  refine blk ?_
  obtain ⟨o27, l28, k7⟩ := bnk k5
  refine Ax (f := BD (Am n) a0 a1 a2x) (E := fun (x : Int) s => B6 [E_ 0 a0, I_ 1 a1, (2, .v (.ptr pja2 pta2 pga2 0)), (3, .v (.ptr pja3 pta3 pga3 0)), I_ 9 a0.len, I_ 13 x] s ∧ s.low = low ∧ NoB Dh s) (Q := fun (o : ((T3 (Sl Int) (Sl AB) Bool) ⊕ (Unit))) j s => match o with | .inl w26 => j = .ret ∧ FnJ HU.1 low (.d (zI.enc w26)) .ret s | .inr _ => j = .exit 0 ∧ B6 [] s ∧ s.low = low ∧ NoB Dh s) l28 ?_ ⟨r, hl, hf⟩ ?_
  ·rintro x25 s out ⟨r, hl, hf⟩ k8
   unfold BD at k8
   have q30 := Ef ba2
   refine Ra hl hf ?_
   rintro g29 s r hl hf
   refine DW r.2.2.2.2.2.2.1 k8 (fun c31 k8 => ?_) fun c31 k8 => ?_
   ·refine blk ?_
    obtain ⟨v32, h33, k9⟩ := bnk k8
    obtain ⟨v34, h35, k10⟩ := bnk k9
    obtain ⟨v36, h37, k11⟩ := bnk k10
    have q40 := @Ih
    have q41 := @rS
    have q42 := Ef ba3
    have q43 := LQ (sz := 1) rfl h33
    have q44 := E5 (sz := 1) (x := v32) (y := (Sl.cold [x25] : Sl Int)) rfl rfl h35
    have f38 : ∀ (e : Env) (c : Nat), (om zL).call 74 [.d (zI.enc v34), .d (.int a1), .ptr pja2 pta2 pga2 0, .ptr pja3 pta3 pga3 0] (low ++ [⟨e, none⟩]) c = some (.d (zI.enc (v36)), low ++ [⟨e, none⟩], TL zL 74 [.d (zI.enc v34), .d (.int a1), .ptr pja2 pta2 pga2 0, .ptr pja3 pta3 pga3 0] (low ++ [⟨e, none⟩]) c) := fun e c => LL.om (ih (low ++ [(⟨e, none⟩ : Fr)]) v34 a1 a2x _ _ _ _ _ _ (HI ba2) (HI ba3) v36 h37) c
    have q46 := @f38
    refine Ra hl hf ?_ (h := by intro c; simp only [(ku h35 (by simp)), rt, ps, nob hf, *, reduceCtorEq, Nat.reduceEqDiff, Nat.reduceAdd, Nat.reduceMul] <;> rfl)
    rintro g39 s r hl hf
    refine Ra hl hf ?_
    rintro g47 s r hl hf
    refine DW r.2.2.2.2.2.2.2.2.1 k11 (fun c48 k11 => ?_) fun c48 k11 => ?_
    ·refine Ra hl hf ?_
     rintro g49 s r hl hf
     obtain rfl := oK k11
     exact ⟨by decide, ⟨rfl, ⟨Or.inr rfl, hl, Xg (AK r.1) (AK r.2.1) (AK r.2.2.1)⟩⟩⟩
    refine Ra hl hf ?_
    rintro g50 s r hl hf
    obtain rfl := oK k11
    exact ⟨rfl, r, hl, hf⟩
   obtain rfl := oK k8
   exact ⟨by decide, ⟨rfl, trivial, hl, hf⟩⟩
  intro j s hq
  rcases o27 with w26 | _
  ·try dsimp only at k7 hq
   obtain ⟨rfl, hq⟩ := hq
   cases oK k7
   exact hq
  try dsimp only at k7 hq
  obtain ⟨rfl, -, hl, hf⟩ := hq
  refine Ra hl hf ?_
  rintro g51 s r hl hf
  cases oK k7
  exact ⟨Or.inr rfl, hl, Xg (AK r.1) (AK r.2.1) (AK r.2.2.1)⟩
theorem Iw {a0 : AC} {r : ((Sl Int) × (Sl AB))} (k0 : BZ a0 = some r) : Fin zL 52 [zI.enc a0] (zI.enc r) := by
 unfold BZ at k0; replace k0 := kq k0
 refine zU GR Jr ?_
 rintro low s r hl hf
 refine Ra hl hf ?_
 rintro g1 s r hl hf
 refine Ra hl hf ?_
 rintro g2 s r hl hf
 have q4 := @Ox
 refine Ra hl hf ?_
 rintro g3 s r hl hf
 refine Ra hl hf ?_
 rintro g5 s r hl hf
 refine blk ?_
 obtain ⟨o8, l9, k1⟩ := bnk k0
 refine Ax (f := BR a0) (E := fun (x : Int) s => B6 [C_ 1 g1 a0, (4, .box g2 [.fn 74 [] [.ptr low.length 1 g1 0, .ptr low.length 4 g2 0]]), I_ 13 a0.BenchBook.Pieces.len, I_ 14 x] s ∧ s.low = low ∧ NoB GR s) (Q := fun (o : (((Sl Int) × (Sl AB)) ⊕ (Unit))) j s => match o with | .inl w7 => j = .ret ∧ FnJ Jr.1 low (.d (zI.enc w7)) .ret s | .inr _ => j = .exit 0 ∧ B6 [C_ 1 g1 a0, (4, .box g2 [.fn 74 [] [.ptr low.length 1 g1 0, .ptr low.length 4 g2 0]])] s ∧ s.low = low ∧ NoB GR s) l9 ?_ ⟨r, hl, hf⟩ ?_
 ·rintro x6 s out ⟨r, hl, hf⟩ k2
  unfold BR at k2
  refine Ra hl hf ?_
  rintro g10 s r hl hf
  refine DW r.2.2.2.2.1 k2 (fun c11 k2 => ?_) fun c11 k2 => ?_
  ·refine blk <| Ra hl hf ?_
   rintro g12 s r hl hf
   obtain ⟨v13, h14, k3⟩ := bnk k2
   have q17 := @Ih
   have q18 := @rS
   have f15 : ∀ (e : Env) (c : Nat) (z0 : Env.get 1 e = some (.box g1 ((zI.cells a0).map LV.d))) (z1 : Env.get 4 e = some (.box g2 [.fn 74 [] [.ptr low.length 1 g1 0, .ptr low.length 4 g2 0]])), (om zL).call 74 [.d .nils, .d (.int x6), .ptr low.length 1 g1 0, .ptr low.length 4 g2 0] (low ++ [⟨e, none⟩]) c = some (.d (zI.enc (v13)), low ++ [⟨e, none⟩], TL zL 74 [.d .nils, .d (.int x6), .ptr low.length 1 g1 0, .ptr low.length 4 g2 0] (low ++ [⟨e, none⟩]) c) := fun e c z0 z1 => LL.om (Ks 64 (low ++ [(⟨e, none⟩ : Fr)]) (Sl.nil : (Sl Int)) x6 a0 _ _ _ _ _ _ (SD z0) (SD z1) v13 h14) c
   have q19 := @f15
   refine Ra hl hf ?_
   rintro g16 s r hl hf
   refine Ra hl hf ?_
   rintro g20 s r hl hf
   refine DW r.2.2.2.2.2.2.1 k3 (fun c21 k3 => ?_) fun c21 k3 => ?_
   ·refine Ra hl hf ?_
    rintro g22 s r hl hf
    obtain rfl := oK k3
    exact ⟨by decide, ⟨rfl, ⟨Or.inr rfl, hl, BS (AK r.1) (AK r.2.1)⟩⟩⟩
   refine Ra hl hf ?_
   rintro g23 s r hl hf
   obtain rfl := oK k3
   exact ⟨rfl, r, hl, hf⟩
  obtain rfl := oK k2
  exact ⟨by decide, ⟨rfl, ⟨r.1, r.2.1, trivial⟩, hl, hf⟩⟩
 intro j s hq
 rcases o8 with w7 | _
 ·try dsimp only at k1 hq
  obtain ⟨rfl, hq⟩ := hq
  cases oK k1
  exact hq
 try dsimp only at k1 hq
 obtain ⟨rfl, r, hl, hf⟩ := hq
 obtain ⟨v25, h26, k4⟩ := bnk k1
 obtain ⟨c24, hc24⟩ := Ie (LP := zL) (ds := [zI.enc a0, .nils]) (FB h26); simp only [List.map_cons, List.map_nil] at hc24
 have q28 := @hc24
 refine Ra hl hf ?_
 rintro g27 s r hl hf
 cases oK k4
 exact ⟨Or.inr rfl, hl, BS (AK r.1) (AK r.2.1)⟩
def Gf := fun a0 => Cq.mk (@Iw a0)
theorem XJ {a0 : BenchBook} {r : ((Sl Int) × Int)} (k0 : D4 a0 = some r) : Fin zL 24 [zI.enc a0] (zI.enc r) := by
 unfold D4 at k0; replace k0 := kq k0
 refine zU ZB YK ?_
 rintro low s r hl hf
 have q15 := @Dy
 have q16 := @Gf
 refine Ra hl hf ?_
 rintro g1 s r hl hf
 obtain ⟨v2, h3, k1⟩ := bnk k0
 refine Ra hl hf ?_
 rintro g4 s r hl hf
 refine Ra hl hf ?_
 rintro g5 s r hl hf
 refine Kw r.2.2.1 k1 (fun c6 k1 => ?_) fun c6 k1 => ?_
 ·obtain ⟨v7, h8, k2⟩ := bnk k1
  refine Ra hl hf ?_
  rintro g9 s r hl hf
  obtain ⟨v10, h11, k3⟩ := bnk k2
  have q13 := LQ (sz := 1) rfl h11
  refine Ra hl hf ?_
  rintro g12 s r hl hf
  cases oK k3
  exact ⟨Or.inr rfl, hl, BS (bu r.1) (AK r.2.1)⟩
 refine Ra hl hf ?_
 rintro g14 s r hl hf
 cases oK k1
 exact ⟨Or.inr rfl, hl, BS (AK r.1) (AK r.2.1)⟩
def H3 := fun a0 => Cq.mk (@XJ a0)
theorem YT {a0 : (Sl Int)} {a1 : (Sl Int)} {r : Bool} (k0 : CL a0 a1 = some r) : Fin zL 40 [zI.enc a0, zI.enc a1] (.bool r) := by
 unfold CL at k0; replace k0 := kq k0
 refine zU Me bf ?_
 rintro low s r hl hf
 refine Ra hl hf ?_
 rintro g1 s r hl hf
 refine Ra hl hf ?_
 rintro g2 s r hl hf
 refine Ra hl hf ?_
 rintro g3 s r hl hf
 refine blk ?_
 obtain ⟨o7, l8, k1⟩ := bnk k0
 refine Ax (f := Bw a0 a1) (E := fun (x : Bool × Int) s => B6 [E_ 0 a0, E_ 1 a1, B_ 5 x.1, I_ 6 x.2] s ∧ s.low = low ∧ NoB Me s) (Q := fun (y6 : Bool) j s => j = .exit 0 ∧ B6 [B_ 5 y6] s ∧ s.low = low ∧ NoB Me s) l8 ?_ ⟨r, hl, hf⟩ ?_
 ·rintro ⟨x4, x5⟩ s out ⟨r, hl, hf⟩ k2
  dsimp only at r
  simp only [Bw] at k2
  refine Rx (fun g11 => [B_ 18 (x4 && (decide (x5 < a0.len)))]) hl hf ?_
  rintro g11 s r hl hf
  refine DW r.2.2.2.2.1 k2 (fun c12 k2 => ?_) fun c12 k2 => ?_
  ·refine blk ?_
   obtain ⟨v13, h14, k3⟩ := bnk k2
   obtain ⟨v15, h16, k4⟩ := bnk k3
   refine Ra hl hf ?_
   rintro g17 s r hl hf
   refine Ra hl hf ?_
   rintro g18 s r hl hf
   obtain rfl := oK k4
   exact ⟨rfl, r, hl, hf⟩
  obtain rfl := oK k2
  exact ⟨by decide, ⟨rfl, ⟨r.2.2.1, trivial⟩, hl, hf⟩⟩
 intro j s hq
 obtain ⟨y6, rfl⟩ : ∃ x, x = o7 := ⟨_, rfl⟩
 try dsimp only at k1 hq
 obtain ⟨rfl, r, hl, hf⟩ := hq
 refine Ra hl hf ?_
 rintro g19 s r hl hf
 cases oK k1
 exact ⟨Or.inr rfl, hl, AI (AK r.1)⟩
def Q8 := fun a0 a1 => Cq.mk (@YT a0 a1)
theorem ZR {a0 : BenchBook} {r : ((Sl AB) × Int)} (k0 : Ge a0 = some r) : Fin zL 17 [zI.enc a0] (zI.enc r) := by
 unfold Ge at k0; replace k0 := kq k0
 refine zU cD cZ ?_
 rintro low s r hl hf
 have q12 := @Dy
 have q13 := @Gf
 refine Ra hl hf ?_
 rintro g1 s r hl hf
 obtain ⟨v2, h3, k1⟩ := bnk k0
 refine Ra hl hf ?_
 rintro g4 s r hl hf
 refine Ra hl hf ?_
 rintro g5 s r hl hf
 refine Kw r.2.2.1 k1 (fun c6 k1 => ?_) fun c6 k1 => ?_
 ·obtain ⟨v7, h8, k2⟩ := bnk k1
  refine Ra hl hf ?_
  rintro g9 s r hl hf
  refine Ra hl hf ?_
  rintro g10 s r hl hf
  cases oK k2
  exact ⟨Or.inr rfl, hl, BS (AK r.1) (AK r.2.1)⟩
 refine Ra hl hf ?_
 rintro g11 s r hl hf
 cases oK k1
 exact ⟨Or.inr rfl, hl, BS (AK r.1) (AK r.2.1)⟩
def Ll := fun a0 => Cq.mk (@ZR a0)
theorem cA {a0 : BenchBook} {r : ((Sl AB) × Int)} (k0 : Hg a0 = some r) : Fin zL 18 [zI.enc a0] (zI.enc r) := by
 unfold Hg at k0; replace k0 := kq k0
 refine zU fw hZ ?_
 rintro low s r hl hf
 have q20 := @Dy
 have q21 := @G9
 have q22 := @Dt
 refine Ra hl hf ?_
 rintro g1 s r hl hf
 obtain ⟨v2, h3, k1⟩ := bnk k0
 refine Ra hl hf ?_
 rintro g4 s r hl hf
 refine Ra hl hf ?_
 rintro g5 s r hl hf
 refine Kw r.2.2.1 k1 (fun c6 k1 => ?_) fun c6 k1 => ?_
 ·obtain ⟨v7, h8, k2⟩ := bnk k1
  obtain ⟨v9, h10, k3⟩ := bnk k2
  obtain ⟨v11, h12, k4⟩ := bnk k3
  have q14 := Fin.call (LP := zL) (ds := [zI.enc v2.1, .nils]) (FB h8)
  refine Ra hl hf ?_
  rintro g13 s r hl hf
  refine Ra hl hf ?_
  rintro g15 s r hl hf
  refine Kw r.2.1 k4 (fun c16 k4 => ?_) fun c16 k4 => ?_
  ·refine Ra hl hf ?_
   rintro g17 s r hl hf
   cases oK k4
   exact ⟨Or.inr rfl, hl, BS (AK r.1) (AK r.2.1)⟩
  refine Ra hl hf ?_
  rintro g18 s r hl hf
  cases oK k4
  exact ⟨Or.inr rfl, hl, BS (AK r.1) (AK r.2.1)⟩
 refine Ra hl hf ?_
 rintro g19 s r hl hf
 cases oK k1
 exact ⟨Or.inr rfl, hl, BS (AK r.1) (AK r.2.1)⟩
def OJ := fun a0 => Cq.mk (@cA a0)
end Go.Lf
