/- A part of the proof. -/
import Derived.Test.YtdjddljglkeefaaDoorx20
import Derived.Test.YtdjddljglkeefaaDoorx22
import Derived.Test.YtdjddljglkeefaaDoorx47
import Derived.Test.YtdjddljglkeefaaDoorx48
import Derived.Test.YtdjddljglkeefaaDoorx49
set_option linter.all false
set_option maxHeartbeats 9999999
namespace Go.Lf
open Go
theorem KC {low : List Fr} (a0 : Int) (a1x : Int) {pja1 : Nat} {pta1 : Nat} {pga1 : Nat} (ba1 : IH low pja1 pta1 = some (.box pga1 [.d (.int a1x)])) : LL zL 62 [.d (.int a0), .ptr pja1 pta1 pga1 0] low (.d (.bool (FI a0 a1x))) := by
 refine jH V6 Vq ?_
 rintro s r hl hf
 refine Ra hl hf ?_
 rintro g1 s r hl hf
 have q3 := Ef ba1
 refine Ra hl hf ?_
 rintro g2 s r hl hf
 exact ⟨Or.inr rfl, hl, AI (AK r.1)⟩
theorem Q6 {low : List Fr} {a0 : BenchBook} {a1s0c0x : Int} {pja1s0c0 : Nat} {pta1s0c0 : Nat} {pga1s0c0 : Nat} (ba1s0c0 : IH low pja1s0c0 pta1s0c0 = some (.box pga1s0c0 [.d (.int a1s0c0x)])) {r : AC} (k0 : G7 a0 a1s0c0x = some r) : LL zL 61 [.d (zI.enc a0), .agg [.fn 62 [] [.ptr pja1s0c0 pta1s0c0 pga1s0c0 0]]] low (.d (zI.enc r)) := by
 unfold G7 at k0; replace k0 := kq k0
 refine jH BH PX ?_
 rintro s r hl hf
 have q2 := @ky
 have q3 := @iU
 have q4 := @IW
 refine Ra hl hf ?_
 rintro g1 s r hl hf
 have q6 := @Fb
 have q7 := @Hj
 have q8 := @On
 have q9 := @Js
 have q10 := @IW
 have q11 := @pf
 refine Ra hl hf ?_ (h := by intro c; simp only [(Ta (n := 2) (AL.mk (-1) (-1)) rfl (by decide)), (Qx (LP := zL) (t := 13) (gm := c + 1) (key := (Bm.key (AL.mk (-1) (-1)))) (a := (Sl.nil : (Sl Int))) (vd := .nils) (hav := rfl)), rt, ps, nob hf, *, reduceCtorEq, Nat.reduceEqDiff, Nat.reduceAdd, Nat.reduceMul] <;> rfl)
 rintro g5 s r hl hf
 have q15 := @J5
 have q16 := @Ds
 refine Ra hl hf ?_
 rintro g14 s r hl hf
 refine Ra hl hf ?_
 rintro g17 s r hl hf
 refine blk ?_
 obtain ⟨o21, l22, k1⟩ := bnk k0
 refine Ax (f := G6 a0 a1s0c0x) (E := fun (x : (List (List Int × (Sl Int))) × Int) s => B6 [C_ 2 g1 a0, (3, .box (g1 + 1) [.fn 62 [] [.ptr pja1s0c0 pta1s0c0 pga1s0c0 0]]), C_ 4 (g1 + 1 + 1) (AC.mk (BenchBook.mk (VoiceBook.mk (Sl.nil : (Sl AO)) 0 (Sl.nil : (Sl AM))) (Sl.nil : (Sl AE)) 0) (Mp.nil : (Mp 2 (Sl Int)))), (5, .box (g5 + 1 + 1 + 1 + 1 + 1 + 1) (AC.lc (AC.mk a0 (Mp.nil : (Mp 2 (Sl Int)))) low.length 13 (g5 + 1))), (6, .v (.fn 81 [.agg (AC.lc (AC.mk a0 (Mp.nil : (Mp 2 (Sl Int)))) low.length 13 (g5 + 1))] [])), (13, .mapo (g5 + 1) 2 (Dj x.1)), E_ 20 a0.Pieces, I_ 21 a0.Pieces.len, I_ 22 x.2] s ∧ s.low = low ∧ NoB BH s) (Q := fun (y20 : (List (List Int × (Sl Int)))) j s => j = .exit 0 ∧ B6 [C_ 2 g1 a0, (3, .box (g1 + 1) [.fn 62 [] [.ptr pja1s0c0 pta1s0c0 pga1s0c0 0]]), C_ 4 (g1 + 1 + 1) (AC.mk (BenchBook.mk (VoiceBook.mk (Sl.nil : (Sl AO)) 0 (Sl.nil : (Sl AM))) (Sl.nil : (Sl AE)) 0) (Mp.nil : (Mp 2 (Sl Int)))), (5, .box (g5 + 1 + 1 + 1 + 1 + 1 + 1) (AC.lc (AC.mk a0 (Mp.nil : (Mp 2 (Sl Int)))) low.length 13 (g5 + 1))), (13, .mapo (g5 + 1) 2 (Dj y20))] s ∧ s.low = low ∧ NoB BH s) l22 ?_ ⟨r, hl, hf⟩ ?_
 ·rintro ⟨x18, x19⟩ s out ⟨r, hl, hf⟩ k2
  dsimp only at r
  simp only [G6] at k2
  refine Ra hl hf ?_
  rintro g23 s r hl hf
  refine DW r.2.2.2.2.2.2.2.2.2.1 k2 (fun c24 k2 => ?_) fun c24 k2 => ?_
  ·refine blk ?_
   obtain ⟨v25, h26, k3⟩ := bnk k2
   refine Ra hl hf ?_
   rintro g27 s r hl hf
   refine Ra hl hf ?_
   rintro g28 s r hl hf
   refine blk ?_
   obtain ⟨o32, l33, k4⟩ := bnk k3
   refine Ax (f := G8 a0 a1s0c0x x19 v25) (E := fun (x : (List (List Int × (Sl Int))) × Int) s => B6 [C_ 2 g1 a0, (3, .box (g1 + 1) [.fn 62 [] [.ptr pja1s0c0 pta1s0c0 pga1s0c0 0]]), C_ 4 (g1 + 1 + 1) (AC.mk (BenchBook.mk (VoiceBook.mk (Sl.nil : (Sl AO)) 0 (Sl.nil : (Sl AM))) (Sl.nil : (Sl AE)) 0) (Mp.nil : (Mp 2 (Sl Int)))), (5, .box (g5 + 1 + 1 + 1 + 1 + 1 + 1) (AC.lc (AC.mk a0 (Mp.nil : (Mp 2 (Sl Int)))) low.length 13 (g5 + 1))), (6, .v (.fn 81 [.agg (AC.lc (AC.mk a0 (Mp.nil : (Mp 2 (Sl Int)))) low.length 13 (g5 + 1))] [])), I_ 7 x19, (13, .mapo (g5 + 1) 2 (Dj x.1)), E_ 20 a0.Pieces, I_ 21 a0.Pieces.len, I_ 22 x19, I_ 29 v25.Parts.len, I_ 30 x.2] s ∧ s.low = low ∧ NoB BH s) (Q := fun (y31 : (List (List Int × (Sl Int)))) j s => j = .exit 2 ∧ B6 [C_ 2 g1 a0, (3, .box (g1 + 1) [.fn 62 [] [.ptr pja1s0c0 pta1s0c0 pga1s0c0 0]]), C_ 4 (g1 + 1 + 1) (AC.mk (BenchBook.mk (VoiceBook.mk (Sl.nil : (Sl AO)) 0 (Sl.nil : (Sl AM))) (Sl.nil : (Sl AE)) 0) (Mp.nil : (Mp 2 (Sl Int)))), (5, .box (g5 + 1 + 1 + 1 + 1 + 1 + 1) (AC.lc (AC.mk a0 (Mp.nil : (Mp 2 (Sl Int)))) low.length 13 (g5 + 1))), (6, .v (.fn 81 [.agg (AC.lc (AC.mk a0 (Mp.nil : (Mp 2 (Sl Int)))) low.length 13 (g5 + 1))] [])), (13, .mapo (g5 + 1) 2 (Dj y31)), E_ 20 a0.Pieces, I_ 21 a0.Pieces.len, I_ 22 x19] s ∧ s.low = low ∧ NoB BH s) l33 ?_ ⟨r, hl, hf⟩ ?_
   ·rintro ⟨x29, x30⟩ s out ⟨r, hl, hf⟩ k5
    dsimp only at r
    simp only [G8] at k5
    refine Ra hl hf ?_
    rintro g34 s r hl hf
    refine DW r.2.2.2.2.2.2.2.2.2.2.2.2.1 k5 (fun c35 k5 => ?_) fun c35 k5 => ?_
    ·refine blk <| Ra hl hf ?_
     rintro g36 s r hl hf
     have q38 := @FC
     refine Ra hl hf ?_
     rintro g37 s r hl hf
     refine Ra hl hf ?_
     rintro g39 s r hl hf
     refine blk ?_
     obtain ⟨o43, l44, k6⟩ := bnk k5
     refine Ax (f := Gw a0 a1s0c0x x19 x30) (E := fun (x : (List (List Int × (Sl Int))) × Int) s => B6 [C_ 2 g1 a0, (3, .box (g1 + 1) [.fn 62 [] [.ptr pja1s0c0 pta1s0c0 pga1s0c0 0]]), C_ 4 (g1 + 1 + 1) (AC.mk (BenchBook.mk (VoiceBook.mk (Sl.nil : (Sl AO)) 0 (Sl.nil : (Sl AM))) (Sl.nil : (Sl AE)) 0) (Mp.nil : (Mp 2 (Sl Int)))), (5, .box (g5 + 1 + 1 + 1 + 1 + 1 + 1) (AC.lc (AC.mk a0 (Mp.nil : (Mp 2 (Sl Int)))) low.length 13 (g5 + 1))), (6, .v (.fn 81 [.agg (AC.lc (AC.mk a0 (Mp.nil : (Mp 2 (Sl Int)))) low.length 13 (g5 + 1))] [])), I_ 7 x19, C_ 10 (g37 + 1 + 1 + 1) (AL.mk x19 x30), (13, .mapo (g5 + 1) 2 (Dj x.1)), E_ 20 a0.Pieces, I_ 21 a0.Pieces.len, I_ 22 x19, I_ 29 v25.Parts.len, I_ 30 x30, I_ 39 a0.Voice.Boys.len, I_ 40 x.2] s ∧ s.low = low ∧ NoB BH s) (Q := fun (y42 : (List (List Int × (Sl Int)))) j s => j = .exit 4 ∧ B6 [C_ 2 g1 a0, (3, .box (g1 + 1) [.fn 62 [] [.ptr pja1s0c0 pta1s0c0 pga1s0c0 0]]), C_ 4 (g1 + 1 + 1) (AC.mk (BenchBook.mk (VoiceBook.mk (Sl.nil : (Sl AO)) 0 (Sl.nil : (Sl AM))) (Sl.nil : (Sl AE)) 0) (Mp.nil : (Mp 2 (Sl Int)))), (5, .box (g5 + 1 + 1 + 1 + 1 + 1 + 1) (AC.lc (AC.mk a0 (Mp.nil : (Mp 2 (Sl Int)))) low.length 13 (g5 + 1))), (6, .v (.fn 81 [.agg (AC.lc (AC.mk a0 (Mp.nil : (Mp 2 (Sl Int)))) low.length 13 (g5 + 1))] [])), I_ 7 x19, C_ 10 (g37 + 1 + 1 + 1) (AL.mk x19 x30), (13, .mapo (g5 + 1) 2 (Dj y42)), E_ 20 a0.Pieces, I_ 21 a0.Pieces.len, I_ 22 x19, I_ 29 v25.Parts.len, I_ 30 x30] s ∧ s.low = low ∧ NoB BH s) l44 ?_ ⟨r, hl, hf⟩ ?_
     ·rintro ⟨x40, x41⟩ s out ⟨r, hl, hf⟩ k7
      dsimp only at r
      simp only [Gw] at k7
      refine Ra hl hf ?_
      rintro g45 s r hl hf
      refine DW r.2.2.2.2.2.2.2.2.2.2.2.2.2.2.2.1 k7 (fun c46 k7 => ?_) fun c46 k7 => ?_
      ·refine blk <| Ra hl hf ?_
       rintro g47 s r hl hf
       obtain ⟨o53, q54, k8⟩ := bnk k7
       refine lb [C_ 2 g1 a0, (3, .box (g1 + 1) [.fn 62 [] [.ptr pja1s0c0 pta1s0c0 pga1s0c0 0]]), C_ 4 (g1 + 1 + 1) (AC.mk (BenchBook.mk (VoiceBook.mk (Sl.nil : (Sl AO)) 0 (Sl.nil : (Sl AM))) (Sl.nil : (Sl AE)) 0) (Mp.nil : (Mp 2 (Sl Int)))), (5, .box (g5 + 1 + 1 + 1 + 1 + 1 + 1) (AC.lc (AC.mk a0 (Mp.nil : (Mp 2 (Sl Int)))) low.length 13 (g5 + 1))), (6, .v (.fn 81 [.agg (AC.lc (AC.mk a0 (Mp.nil : (Mp 2 (Sl Int)))) low.length 13 (g5 + 1))] [])), I_ 7 x19, C_ 10 (g37 + 1 + 1 + 1) (AL.mk x19 x30), I_ 11 x41, (13, .mapo (g5 + 1) 2 (Dj x40)), E_ 20 a0.Pieces, I_ 21 a0.Pieces.len, I_ 22 x19, I_ 29 v25.Parts.len, I_ 30 x30, I_ 39 a0.Voice.Boys.len, I_ 40 x41, B_ 53 o53] hl hf ?_ ?_
       ·by_cases zh : (FI x41 a1s0c0x) = true
        ·rw [if_pos zh] at q54
         have e1 := oI q54
         have f48 : ∀ (e : Env) (c : Nat), (om zL).call 62 [.d (.int x41), .ptr pja1s0c0 pta1s0c0 pga1s0c0 0] (low ++ [⟨e, none⟩]) c = some (.d (.bool ((FI x41 a1s0c0x))), low ++ [⟨e, none⟩], TL zL 62 [.d (.int x41), .ptr pja1s0c0 pta1s0c0 pga1s0c0 0] (low ++ [⟨e, none⟩]) c) := fun e c => LL.om (KC x41 a1s0c0x (HI ba1s0c0)) c
         simp only [rs, ps, Be, G3, Ih, DI, hl, nob hf, r, f48, zh, ← e1, reduceCtorEq, Nat.reduceEqDiff, Nat.reduceAdd]
        rw [if_neg zh] at q54
        have zh := eq_false_of_ne_true zh
        obtain ⟨v50, h51, q72⟩ := bnd q54
        have e1 := oI q72
        have f48 : ∀ (e : Env) (c : Nat), (om zL).call 62 [.d (.int x41), .ptr pja1s0c0 pta1s0c0 pga1s0c0 0] (low ++ [⟨e, none⟩]) c = some (.d (.bool ((FI x41 a1s0c0x))), low ++ [⟨e, none⟩], TL zL 62 [.d (.int x41), .ptr pja1s0c0 pta1s0c0 pga1s0c0 0] (low ++ [⟨e, none⟩]) c) := fun e c => LL.om (KC x41 a1s0c0x (HI ba1s0c0)) c
        have f52 : ∀ (e : Env) (c : Nat), (om zL).call 81 [.agg (AC.lc (AC.mk a0 (Mp.nil : (Mp 2 (Sl Int)))) low.length 13 (g5 + 1)), .d (zI.enc (AL.mk x19 x30)), .d (.int x41)] (low ++ [⟨e, none⟩]) c = some (.d (.bool (v50)), low ++ [⟨e, none⟩], TL zL 81 [.agg (AC.lc (AC.mk a0 (Mp.nil : (Mp 2 (Sl Int)))) low.length 13 (g5 + 1)), .d (zI.enc (AL.mk x19 x30)), .d (.int x41)] (low ++ [⟨e, none⟩]) c) := fun e c => LL.om (JX (by first | omega | (simp only [List.length_append, List.length_cons, List.length_nil]; omega)) h51) c
        simp only [rs, ps, Be, G3, Ih, DI, hl, nob hf, r, f48, zh, f52, ← e1, reduceCtorEq, Nat.reduceEqDiff, Nat.reduceAdd]
       rintro s r hl hf
       refine DW r.2.2.2.2.2.2.2.2.2.2.2.2.2.2.2.2.1 k8 (fun c57 k8 => ?_) fun c57 k8 => ?_
       ·refine Ra hl hf ?_
        rintro g58 s r hl hf
        obtain rfl := oK k8
        exact ⟨rfl, r, hl, hf⟩
       obtain ⟨v59, h60, k9⟩ := bnk k8
       have q62 := @On
       have q63 := @Js
       have q64 := @JJ
       have q68 := E5 (sz := 1) (x := (NY (Sl.nil : (Sl Int)) x40 (Bm.key (AL.mk x19 x30)))) (y := (Sl.cold [x41] : Sl Int)) rfl rfl h60
       refine Ra hl hf ?_ (h := by intro c; simp only [(Ta (n := 2) (AL.mk x19 x30) rfl (by decide)), (Rl (LP := zL) (t := 13) (gm := g5 + 1) (key := (Bm.key (AL.mk x19 x30))) (es := x40) (z := (Sl.nil : (Sl Int))) (hz := rfl)), (bS (LP := zL) (a := (NY (Sl.nil : (Sl Int)) x40 (Bm.key (AL.mk x19 x30)))) (y := .d (.int (Gv x40 (Bm.key (AL.mk x19 x30)))))), (RO (LP := zL) (x := Sl.lv (Sl.spent (NY (Sl.nil : (Sl Int)) x40 (Bm.key (AL.mk x19 x30))))) (y := .int (Gv x40 (Bm.key (AL.mk x19 x30))))), (RR (LP := zL) (t := 13) (gm := g5 + 1) (key := (Bm.key (AL.mk x19 x30))) (es := x40) (z := (Sl.nil : (Sl Int))) (a := v59)), rt, ps, nob hf, *, reduceCtorEq, Nat.reduceEqDiff, Nat.reduceAdd, Nat.reduceMul] <;> rfl)
       rintro g61 s r hl hf
       refine Ra hl hf ?_
       rintro g71 s r hl hf
       obtain rfl := oK k9
       exact ⟨rfl, r, hl, hf⟩
      obtain rfl := oK k7
      exact ⟨by decide, ⟨rfl, ⟨r.1, r.2.1, r.2.2.1, r.2.2.2.1, r.2.2.2.2.1, r.2.2.2.2.2.1, r.2.2.2.2.2.2.1, r.2.2.2.2.2.2.2.1, r.2.2.2.2.2.2.2.2.1, r.2.2.2.2.2.2.2.2.2.1, r.2.2.2.2.2.2.2.2.2.2.1, r.2.2.2.2.2.2.2.2.2.2.2.1, r.2.2.2.2.2.2.2.2.2.2.2.2.1, trivial⟩, hl, hf⟩⟩
     intro j s hq
     obtain ⟨y42, rfl⟩ : ∃ x, x = o43 := ⟨_, rfl⟩
     try dsimp only at k6 hq
     obtain ⟨rfl, r, hl, hf⟩ := hq
     refine Ra hl hf ?_
     rintro g73 s r hl hf
     obtain rfl := oK k6
     exact ⟨rfl, r, hl, hf⟩
    obtain rfl := oK k5
    exact ⟨by decide, ⟨rfl, ⟨r.1, r.2.1, r.2.2.1, r.2.2.2.1, r.2.2.2.2.1, r.2.2.2.2.2.2.1, r.2.2.2.2.2.2.2.1, r.2.2.2.2.2.2.2.2.1, r.2.2.2.2.2.2.2.2.2.1, trivial⟩, hl, hf⟩⟩
   intro j s hq
   obtain ⟨y31, rfl⟩ : ∃ x, x = o32 := ⟨_, rfl⟩
   try dsimp only at k4 hq
   obtain ⟨rfl, r, hl, hf⟩ := hq
   refine Ra hl hf ?_
   rintro g74 s r hl hf
   obtain rfl := oK k4
   exact ⟨rfl, r, hl, hf⟩
  obtain rfl := oK k2
  exact ⟨by decide, ⟨rfl, ⟨r.1, r.2.1, r.2.2.1, r.2.2.2.1, r.2.2.2.2.2.1, trivial⟩, hl, hf⟩⟩
 intro j s hq
 obtain ⟨y20, rfl⟩ : ∃ x, x = o21 := ⟨_, rfl⟩
 try dsimp only at k1 hq
 obtain ⟨rfl, r, hl, hf⟩ := hq
 have q76 := @Fb
 have q77 := @Hj
 have q78 := @Ds
 refine Ra hl hf ?_
 rintro g75 s r hl hf
 cases oK k1
 exact ⟨Or.inr rfl, hl, AI (LE (by rw [hl]; exact r.1) r.2.1)⟩
theorem Ys {a0 : Int} {a1 : (Sl Int)} {r : Int} (k0 : MB a0 a1 = some r) : Fin zL 63 [.int a0, zI.enc a1] (.int r) := by
 unfold MB at k0; replace k0 := kq k0
 refine zU MF dK ?_
 rintro low s r hl hf
 refine Ra hl hf ?_
 rintro g1 s r hl hf
 refine Ra hl hf ?_
 rintro g2 s r hl hf
 refine blk ?_
 obtain ⟨o6, l7, k1⟩ := bnk k0
 refine Ax (f := KW a1) (E := fun (x : Int × Int) s => B6 [I_ 0 x.1, E_ 7 a1, I_ 8 a1.len, I_ 9 x.2] s ∧ s.low = low ∧ NoB MF s) (Q := fun (y5 : Int) j s => j = .exit 0 ∧ B6 [I_ 0 y5] s ∧ s.low = low ∧ NoB MF s) l7 ?_ ⟨r, hl, hf⟩ ?_
 ·rintro ⟨x3, x4⟩ s out ⟨r, hl, hf⟩ k2
  dsimp only at r
  simp only [KW] at k2
  refine Ra hl hf ?_
  rintro g8 s r hl hf
  refine DW r.2.2.2.2.1 k2 (fun c9 k2 => ?_) fun c9 k2 => ?_
  ·refine blk ?_
   obtain ⟨v10, h11, k3⟩ := bnk k2
   refine Ra hl hf ?_
   rintro g12 s r hl hf
   have q14 := @V3
   refine Ra hl hf ?_
   rintro g13 s r hl hf
   refine Ra hl hf ?_
   rintro g15 s r hl hf
   obtain rfl := oK k3
   exact ⟨rfl, r, hl, hf⟩
  obtain rfl := oK k2
  exact ⟨by decide, ⟨rfl, ⟨r.1, trivial⟩, hl, hf⟩⟩
 intro j s hq
 obtain ⟨y5, rfl⟩ : ∃ x, x = o6 := ⟨_, rfl⟩
 try dsimp only at k1 hq
 obtain ⟨rfl, r, hl, hf⟩ := hq
 refine Ra hl hf ?_
 rintro g16 s r hl hf
 cases oK k1
 exact ⟨Or.inr rfl, hl, AI (AK r.1)⟩
def b8 := fun a0 a1 => Cq.mk (@Ys a0 a1)
theorem av {a0 : BenchBook} {r : ((Sl Int) × Int)} (k0 : LI a0 = some r) : Fin zL 41 [zI.enc a0] (zI.enc r) := by
 unfold LI at k0; replace k0 := kq k0
 refine zU Nk dm ?_
 rintro low s r hl hf
 have q49 := @Dy
 have q50 := @Gf
 have q51 := @b8
 refine Ra hl hf ?_
 rintro g1 s r hl hf
 obtain ⟨v2, h3, k1⟩ := bnk k0
 refine Ra hl hf ?_
 rintro g4 s r hl hf
 refine Ra hl hf ?_
 rintro g5 s r hl hf
 refine Kw r.2.2.2.1 k1 (fun c6 k1 => ?_) fun c6 k1 => ?_
 ·obtain ⟨v7, h8, k2⟩ := bnk k1
  refine Ra hl hf ?_
  rintro g9 s r hl hf
  refine Ra hl hf ?_
  rintro g10 s r hl hf
  refine Ra hl hf ?_
  rintro g11 s r hl hf
  refine blk ?_
  obtain ⟨zN, l16, k3⟩ := bnk k2
  refine Ax (f := FW a0 v7) (E := fun (x : (Sl Int) × Int) s => B6 [C_ 1 g1 a0, E_ 6 v7.1, (8, .v (Sl.lv x.1)), I_ 28 a0.Voice.Boys.len, I_ 29 x.2] s ∧ s.low = low ∧ NoB Nk s) (Q := fun (y14 : (Sl Int)) j s => j = .exit 0 ∧ B6 [C_ 1 g1 a0, (8, .v (Sl.lv y14))] s ∧ s.low = low ∧ NoB Nk s) l16 ?_ ⟨r, hl, hf⟩ ?_
  ·rintro ⟨x12, x13⟩ s out ⟨r, hl, hf⟩ k4
   dsimp only at r
   simp only [FW] at k4
   refine Ra hl hf ?_
   rintro g17 s r hl hf
   refine DW r.2.2.2.2.2.1 k4 (fun c18 k4 => ?_) fun c18 k4 => ?_
   ·refine blk <| Ra hl hf ?_
    rintro g19 s r hl hf
    obtain ⟨v20, h21, k5⟩ := bnk k4
    obtain ⟨v24, h25, k6⟩ := bnk k5
    have q27 := @tK
    have q28 := @sV
    have q29 := @sc
    have q30 := @na
    have f22 : ∀ (e : Env) (c : Nat) (z0 : Env.get 9 e = some (.box (g19 + 1) [.d (.int x13)])), (om zL).call 61 [.d (zI.enc a0), .agg [.fn 62 [] [.ptr low.length 9 (g19 + 1) 0]]] (low ++ [⟨e, none⟩]) c = some (.d (zI.enc (v20)), low ++ [⟨e, none⟩], TL zL 61 [.d (zI.enc a0), .agg [.fn 62 [] [.ptr low.length 9 (g19 + 1) 0]]] (low ++ [⟨e, none⟩]) c) := fun e c z0 => LL.om (Q6 (SD z0) h21) c
    have q31 := @f22
    obtain ⟨c23, hc23⟩ := Ie (LP := zL) (ds := [zI.enc v20]) (Iw h25); simp only [List.map_cons, List.map_nil] at hc23
    have q32 := @hc23
    refine Ra hl hf ?_
    rintro g26 s r hl hf
    obtain ⟨v33, h34, k7⟩ := bnk k6
    refine Ra hl hf ?_
    rintro g35 s r hl hf
    refine DW r.2.2.2.2.2.2.1 k7 (fun c36 k7 => ?_) fun c36 k7 => ?_
    ·obtain ⟨v37, h38, k8⟩ := bnk k7
     have q40 := E5 (sz := 1) (x := x12) (y := (Sl.cold [x13] : Sl Int)) rfl rfl h38
     refine Ra hl hf ?_
     rintro g39 s r hl hf
     refine Ra hl hf ?_
     rintro g41 s r hl hf
     obtain rfl := oK k8
     exact ⟨rfl, r, hl, hf⟩
    refine Ra hl hf ?_
    rintro g42 s r hl hf
    obtain rfl := oK k7
    exact ⟨rfl, r, hl, hf⟩
   obtain rfl := oK k4
   exact ⟨by decide, ⟨rfl, ⟨r.1, r.2.2.1, trivial⟩, hl, hf⟩⟩
  intro j s hq
  obtain ⟨y14, rfl⟩ : ∃ x, x = zN := ⟨_, rfl⟩
  try dsimp only at k3 hq
  obtain ⟨rfl, r, hl, hf⟩ := hq
  obtain ⟨v43, h44, k9⟩ := bnk k3
  have q46 := @ot
  have q47 := LQ (sz := 1) rfl h44
  refine Ra hl hf ?_
  rintro g45 s r hl hf
  cases oK k9
  exact ⟨Or.inr rfl, hl, BS (bu r.1) (AK r.2.1)⟩
 refine Ra hl hf ?_
 rintro g48 s r hl hf
 cases oK k1
 exact ⟨Or.inr rfl, hl, BS (AK r.1) (AK r.2.1)⟩
def fy := fun a0 => Cq.mk (@av a0)
theorem cx {a0 : (Sl AB)} {a1 : (Sl AB)} {r : Bool} (k0 : Eu a0 a1 = some r) : Fin zL 29 [zI.enc a0, zI.enc a1] (.bool r) := by
 unfold Eu at k0; replace k0 := kq k0
 refine zU Nw ew ?_
 rintro low s r hl hf
 refine Ra hl hf ?_
 rintro g1 s r hl hf
 refine Ra hl hf ?_
 rintro g2 s r hl hf
 refine Ra hl hf ?_
 rintro g3 s r hl hf
 refine blk ?_
 obtain ⟨o7, l8, k1⟩ := bnk k0
 refine Ax (f := Dv a0 a1) (E := fun (x : Bool × Int) s => B6 [E_ 0 a0, E_ 1 a1, B_ 5 x.1, I_ 6 x.2] s ∧ s.low = low ∧ NoB Nw s) (Q := fun (y6 : Bool) j s => j = .exit 0 ∧ B6 [B_ 5 y6] s ∧ s.low = low ∧ NoB Nw s) l8 ?_ ⟨r, hl, hf⟩ ?_
 ·rintro ⟨x4, x5⟩ s out ⟨r, hl, hf⟩ k2
  dsimp only at r
  simp only [Dv] at k2
  refine Rx (fun g11 => [B_ 18 (x4 && (decide (x5 < a0.len)))]) hl hf ?_
  rintro g11 s r hl hf
  refine DW r.2.2.2.2.1 k2 (fun c12 k2 => ?_) fun c12 k2 => ?_
  ·refine blk ?_
   obtain ⟨v13, h14, k3⟩ := bnk k2
   obtain ⟨v15, h16, k4⟩ := bnk k3
   refine Ra hl hf ?_
   rintro g17 s r hl hf
   refine Ra hl hf ?_
   rintro g18 s r hl hf
   obtain rfl := oK k4
   exact ⟨rfl, r, hl, hf⟩
  obtain rfl := oK k2
  exact ⟨by decide, ⟨rfl, ⟨r.2.2.1, trivial⟩, hl, hf⟩⟩
 intro j s hq
 obtain ⟨y6, rfl⟩ : ∃ x, x = o7 := ⟨_, rfl⟩
 try dsimp only at k1 hq
 obtain ⟨rfl, r, hl, hf⟩ := hq
 refine Ra hl hf ?_
 rintro g19 s r hl hf
 cases oK k1
 exact ⟨Or.inr rfl, hl, AI (AK r.1)⟩
def UI := fun a0 a1 => Cq.mk (@cx a0 a1)
theorem XZ {r : Bool} (k0 : Aq = some r) : Fin zL 9 [] (.bool r) := by
 unfold Aq at k0; replace k0 := kq k0
 refine zU Ya YV ?_
 rintro low s - hl hf
 have q62 := @Qk
 have q63 := @H3
 have q64 := @OJ
 have q65 := @T8
 have q66 := @QA
 have q67 := @fy
 have q68 := @Ll
 have q69 := @OS
 have q70 := @ep
 have q71 := @fj
 have q72 := @jX
 have q73 := @UI
 have q74 := @OG
 have q75 := @cK
 have q76 := @Q8
 refine Ra hl hf ?_
 rintro g1 s - hl hf
 obtain ⟨v2, h3, k1⟩ := bnk k0
 refine Ra hl hf ?_
 rintro g4 s r hl hf
 obtain ⟨v5, h6, k2⟩ := bnk k1
 refine Ra hl hf ?_
 rintro g7 s r hl hf
 obtain ⟨v8, h9, k3⟩ := bnk k2
 refine Ra hl hf ?_
 rintro g10 s r hl hf
 obtain ⟨v11, h12, k4⟩ := bnk k3
 refine Ra hl hf ?_
 rintro g13 s r hl hf
 obtain ⟨v14, h15, k5⟩ := bnk k4
 refine Ra hl hf ?_
 rintro g16 s r hl hf
 obtain ⟨o30, q, k6⟩ := bnk k5
 refine Rq (fun g32 => [B_ 82 o30]) hl hf q ?_
 rintro g32 s r hl hf
 refine DW r.1 k6 (fun c33 k6 => ?_) fun c33 k6 => ?_
 ·refine Ra hl hf ?_
  rintro g34 s r hl hf
  cases oK k6
  exact ⟨Or.inr rfl, hl, AI (AK r.1)⟩
 obtain ⟨v35, h36, k7⟩ := bnk k6
 refine Ra hl hf ?_
 rintro g37 s r hl hf
 obtain ⟨v38, h39, k8⟩ := bnk k7
 refine Ra hl hf ?_
 rintro g40 s r hl hf
 obtain ⟨v41, h42, k9⟩ := bnk k8
 refine Ra hl hf ?_
 rintro g43 s r hl hf
 obtain ⟨v44, h45, k10⟩ := bnk k9
 refine Ra hl hf ?_
 rintro g46 s r hl hf
 obtain ⟨o59, q, k11⟩ := bnk k10
 refine Rq (fun g61 => [B_ 0 o59]) hl hf q ?_
 rintro g61 s r hl hf
 cases oK k11
 exact ⟨Or.inr rfl, hl, AI (AK r.1)⟩
def GG := Cq.mk (@XZ)
theorem Jf {a0 : BenchBook} {a1 : (Sl AB)} {a2 : Int} {r : Bool} (k0 : GI a0 a1 a2 = some r) : Fin zL 3 [zI.enc a0, zI.enc a1, .int a2] (.bool r) := by
 unfold GI at k0; replace k0 := kq k0
 refine zU Rf RQ ?_
 rintro low s r hl hf
 have q52 := @Qk
 have q53 := @QA
 have q54 := @Nz
 have q55 := @KV
 have q56 := @GG
 have q57 := @HE
 have q58 := @OQ
 have q59 := @IM
 have q60 := @NE
 refine Ra hl hf ?_
 rintro g1 s r hl hf
 obtain ⟨v2, h3, k1⟩ := bnk k0
 refine Ra hl hf ?_
 rintro g4 s r hl hf
 refine Kw r.2.2.2.1 k1 (fun c5 k1 => ?_) fun c5 k1 => ?_
 ·obtain ⟨v6, h7, k2⟩ := bnk k1
  obtain ⟨v8, h9, k3⟩ := bnk k2
  obtain ⟨v10, h11, k4⟩ := bnk k3
  have q13 := Fp h7
  refine Ra hl hf ?_
  rintro g12 s r hl hf
  obtain ⟨v14, h15, k5⟩ := bnk k4
  refine Ra hl hf ?_
  rintro g16 s r hl hf
  obtain ⟨v17, h18, k6⟩ := bnk k5
  refine Ra hl hf ?_
  rintro g19 s r hl hf
  refine Ra hl hf ?_
  rintro g20 s r hl hf
  refine Kw r.2.2.2.2.2.2.1 k6 (fun c21 k6 => ?_) fun c21 k6 => ?_
  ·refine Ra hl hf ?_
   rintro g22 s r hl hf
   refine Kw r.2.2.2.2.2.1 k6 (fun c23 k6 => ?_) fun c23 k6 => ?_
   ·obtain ⟨v24, h25, k7⟩ := bnk k6
    refine Ra hl hf ?_
    rintro g26 s r hl hf
    obtain ⟨o34, q, k8⟩ := bnk k7
    refine Rq (fun g36 => [B_ 6 o34]) hl hf q ?_
    rintro g36 s r hl hf
    cases oK k8
    exact ⟨Or.inr rfl, hl, AI (AK r.1)⟩
   obtain ⟨v37, h38, k9⟩ := bnk k6
   refine Ra hl hf ?_
   rintro g39 s r hl hf
   obtain ⟨o45, q, k10⟩ := bnk k9
   refine Rq (fun g47 => [B_ 6 o45]) hl hf q ?_
   rintro g47 s r hl hf
   cases oK k10
   exact ⟨Or.inr rfl, hl, AI (AK r.1)⟩
  refine Ra hl hf ?_
  rintro g48 s r hl hf
  cases oK k6
  exact ⟨Or.inr rfl, hl, AI (AK r.1)⟩
 obtain ⟨v49, h50, k11⟩ := bnk k1
 refine Ra hl hf ?_
 rintro g51 s r hl hf
 cases oK k11
 exact ⟨Or.inr rfl, hl, AI (AK r.1)⟩
def lS := fun a0 a1 a2 => Cq.mk (@Jf a0 a1 a2)
theorem de {a0 : (Sl Int)} {a1 : Int} {r : Int} (k0 : Je a0 a1 = some r) : Fin zL 20 [zI.enc a0, .int a1] (.int r) := by
 unfold Je at k0; replace k0 := kq k0
 refine zU jy iz ?_
 rintro low s r hl hf
 have q10 := @IM
 refine Ra hl hf ?_
 rintro g1 s r hl hf
 refine Ra hl hf ?_
 rintro g2 s r hl hf
 refine DW r.2.2.1 k0 (fun c3 k0 => ?_) fun c3 k0 => ?_
 ·refine Ra hl hf ?_
  rintro g4 s r hl hf
  cases oK k0
  exact ⟨Or.inr rfl, hl, AI (AK r.1)⟩
 obtain ⟨v5, h6, k1⟩ := bnk k0
 obtain ⟨v7, h8, k2⟩ := bnk k1
 refine Ra hl hf ?_
 rintro g9 s r hl hf
 cases oK k2
 exact ⟨Or.inr rfl, hl, AI (AK r.1)⟩
def Xx := fun a0 a1 => Cq.mk (@de a0 a1)
theorem cT {a0 : Ew} {a1 : Int} {r : Int} (k0 : Fq a0 a1 = some r) : Fin zL 21 [zI.enc a0, .int a1] (.int r) := by
 unfold Fq at k0; replace k0 := kq k0
 refine zU gu gZ ?_
 rintro low s r hl hf
 have q5 := @IM
 refine Ra hl hf ?_
 rintro g1 s r hl hf
 obtain ⟨v2, h3, k1⟩ := bnk k0
 refine Ra hl hf ?_
 rintro g4 s r hl hf
 cases oK k1
 exact ⟨Or.inr rfl, hl, AI (AK r.1)⟩
def UU := fun a0 a1 => Cq.mk (@cT a0 a1)
theorem U3 {a0 : AO} {a1 : Int} {a2 : Int} {r : Int} (k0 : G1 a0 a1 a2 = some r) : Fin zL 22 [zI.enc a0, .int a1, .int a2] (.int r) := by
 unfold G1 at k0; replace k0 := kq k0
 refine zU Wg Xm ?_
 rintro low s r hl hf
 have q17 := @UU
 refine Ra hl hf ?_
 rintro g1 s r hl hf
 obtain ⟨v2, h3, k1⟩ := bnk k0
 refine Ra hl hf ?_
 rintro g4 s r hl hf
 refine DW r.2.2.2.1 k1 (fun c5 k1 => ?_) fun c5 k1 => ?_
 ·refine Ra hl hf ?_
  rintro g6 s r hl hf
  cases oK k1
  exact ⟨Or.inr rfl, hl, AI (AK r.1)⟩
 obtain ⟨v7, h8, k2⟩ := bnk k1
 refine Ra hl hf ?_
 rintro g9 s r hl hf
 obtain ⟨v10, h11, k3⟩ := bnk k2
 obtain ⟨v12, h13, k4⟩ := bnk k3
 have q15 := @vR
 have q16 := @V3
 refine Ra hl hf ?_
 rintro g14 s r hl hf
 cases oK k4
 exact ⟨Or.inr rfl, hl, AI (AK r.1)⟩
def Vh := fun a0 a1 a2 => Cq.mk (@U3 a0 a1 a2)
theorem J8 {a0 : BenchBook} {a1 : (Sl Int)} {r : Bool} (k0 : HQ a0 a1 = some r) : Fin zL 4 [zI.enc a0, zI.enc a1] (.bool r) := by
 unfold HQ at k0; replace k0 := kq k0
 refine zU Hq LD ?_
 rintro low s r hl hf
 have q77 := @OJ
 have q78 := @Ll
 have q79 := @Vh
 have q80 := @GG
 have q81 := @HE
 have q82 := @UU
 have q83 := @Ib
 have q84 := @Xx
 refine Ra hl hf ?_
 rintro g1 s r hl hf
 obtain ⟨v2, h3, k1⟩ := bnk k0
 refine Ra hl hf ?_
 rintro g4 s r hl hf
 refine Kw r.2.2.1 k1 (fun c5 k1 => ?_) fun c5 k1 => ?_
 ·refine Ra hl hf ?_
  rintro g6 s r hl hf
  refine Ra hl hf ?_
  rintro g7 s r hl hf
  obtain ⟨v8, h9, k2⟩ := bnk k1
  refine Ra hl hf ?_
  rintro g10 s r hl hf
  obtain ⟨v11, h12, k3⟩ := bnk k2
  refine Ra hl hf ?_
  rintro g13 s r hl hf
  refine Rx (fun g18 => [B_ 46 (if (decide (v8.2 = 0)) then (!(decide (v11.2 = 0)) && (if (decide (v11.2 = 4)) then (!(decide (v11.1.len = 0))) else true)) else true)]) hl hf ?_
  rintro g18 s r hl hf
  refine DW r.2.2.2.2.1 k3 (fun c19 k3 => ?_) fun c19 k3 => ?_
  ·refine Ra hl hf ?_
   rintro g20 s r hl hf
   cases oK k3
   exact ⟨Or.inr rfl, hl, AI (AK r.1)⟩
  obtain ⟨v21, h22, k4⟩ := bnk k3
  obtain ⟨v23, h24, k5⟩ := bnk k4
  have q26 := @Uo
  have q27 := E5 (sz := 3) (x := (Sl.hot [] : Sl AB)) (y := v8.1) rfl rfl h22
  have q28 := E5 (sz := 3) (x := v21) (y := v11.1) rfl rfl h24
  refine Ra hl hf ?_
  rintro g25 s r hl hf
  refine Ra hl hf ?_
  rintro g29 s r hl hf
  refine blk ?_
  obtain ⟨o32, l33, k6⟩ := bnk k5
  refine Ax (f := Ce a0 a1 v23) (E := fun (x : Int) s => B6 [E_ 1 a1, C_ 2 g1 a0, (6, .v (Sl.lv v23)), I_ 10 x] s ∧ s.low = low ∧ NoB Hq s) (Q := fun (o : ((Bool) ⊕ (Unit))) j s => match o with | .inl w31 => j = .ret ∧ FnJ LD.1 low (.d (.bool w31)) .ret s | .inr _ => j = .exit 0 ∧ B6 [C_ 2 g1 a0] s ∧ s.low = low ∧ NoB Hq s) l33 ?_ ⟨r, hl, hf⟩ ?_
  ·rintro x30 s out ⟨r, hl, hf⟩ k7
   unfold Ce at k7
   refine Ra hl hf ?_
   rintro g34 s r hl hf
   refine DW r.2.2.2.2.1 k7 (fun c35 k7 => ?_) fun c35 k7 => ?_
   ·refine blk ?_
    obtain ⟨v36, h37, k8⟩ := bnk k7
    refine Ra hl hf ?_
    rintro g38 s r hl hf
    obtain ⟨o43, q, k9⟩ := bnk k8
    try clear h51
    refine Rq (fun g45 => [B_ 95 o43]) hl hf q ?_
    rintro g45 s r hl hf
    refine DW r.2.2.2.2.2.1 k9 (fun c46 k9 => ?_) fun c46 k9 => ?_
    ·refine Ra hl hf ?_
     rintro g47 s r hl hf
     obtain rfl := oK k9
     exact ⟨by decide, ⟨rfl, ⟨Or.inr rfl, hl, AI (AK r.1)⟩⟩⟩
    obtain ⟨v48, h49, k10⟩ := bnk k9
    obtain ⟨v50, h51, k11⟩ := bnk k10
    obtain ⟨v52, h53, k12⟩ := bnk k11
    refine Ra hl hf ?_
    rintro g54 s r hl hf
    obtain ⟨v55, h56, k13⟩ := bnk k12
    refine Ra hl hf ?_
    rintro g57 s r hl hf
    obtain ⟨o65, q, k14⟩ := bnk k13
    try clear h51
    refine Rq (fun g67 => [B_ 140 o65]) hl hf q ?_
    rintro g67 s r hl hf
    refine DW r.2.2.2.2.1 k14 (fun c68 k14 => ?_) fun c68 k14 => ?_
    ·refine Ra hl hf ?_
     rintro g69 s r hl hf
     obtain rfl := oK k14
     exact ⟨by decide, ⟨rfl, ⟨Or.inr rfl, hl, AI (AK r.1)⟩⟩⟩
    refine Ra hl hf ?_
    rintro g70 s r hl hf
    obtain rfl := oK k14
    exact ⟨rfl, r, hl, hf⟩
   obtain rfl := oK k7
   exact ⟨by decide, ⟨rfl, ⟨r.2.1, trivial⟩, hl, hf⟩⟩
  intro j s hq
  rcases o32 with w31 | _
  ·try dsimp only at k6 hq
   obtain ⟨rfl, hq⟩ := hq
   cases oK k6
   exact hq
  try dsimp only at k6 hq
  obtain ⟨rfl, r, hl, hf⟩ := hq
  obtain ⟨v71, h72, k15⟩ := bnk k6
  refine Ra hl hf ?_
  rintro g73 s r hl hf
  cases oK k15
  exact ⟨Or.inr rfl, hl, AI (AK r.1)⟩
 obtain ⟨v74, h75, k16⟩ := bnk k1
 try clear h72
 refine Ra hl hf ?_
 rintro g76 s r hl hf
 cases oK k16
 exact ⟨Or.inr rfl, hl, AI (AK r.1)⟩
def nS := fun a0 a1 => Cq.mk (@J8 a0 a1)
theorem au {a0 : BenchBook} {a1 : (Sl Int)} {r : (Sl Int)} (k0 : JC a0 a1 = some r) : Fin zL 26 [zI.enc a0, zI.enc a1] (zI.enc r) := by
 unfold JC at k0; replace k0 := kq k0
 refine zU OA dX ?_
 rintro low s r hl hf
 have q22 := @MG
 refine Ra hl hf ?_
 rintro g1 s r hl hf
 refine Ra hl hf ?_
 rintro g2 s r hl hf
 refine Ra hl hf ?_
 rintro g3 s r hl hf
 refine blk ?_
 obtain ⟨o7, l8, k1⟩ := bnk k0
 refine Ax (f := FR a0 a1) (E := fun (x : (Sl Int) × Int) s => B6 [E_ 1 a1, C_ 2 g1 a0, (5, .v (Sl.lv x.1)), I_ 6 x.2] s ∧ s.low = low ∧ NoB OA s) (Q := fun (y6 : (Sl Int)) j s => j = .exit 0 ∧ B6 [C_ 2 g1 a0, (5, .v (Sl.lv y6))] s ∧ s.low = low ∧ NoB OA s) l8 ?_ ⟨r, hl, hf⟩ ?_
 ·rintro ⟨x4, x5⟩ s out ⟨r, hl, hf⟩ k2
  dsimp only at r
  simp only [FR] at k2
  refine Ra hl hf ?_
  rintro g9 s r hl hf
  refine DW r.2.2.2.2.1 k2 (fun c10 k2 => ?_) fun c10 k2 => ?_
  ·refine blk ?_
   obtain ⟨v11, h12, k3⟩ := bnk k2
   refine Ra hl hf ?_
   rintro g13 s r hl hf
   refine DW r.2.2.2.2.1 k3 (fun c14 k3 => ?_) fun c14 k3 => ?_
   ·obtain ⟨v15, h16, k4⟩ := bnk k3
    have q18 := E5 (sz := 1) (x := x4) (y := (Sl.cold [x5] : Sl Int)) rfl rfl h16
    refine Ra hl hf ?_
    rintro g17 s r hl hf
    refine Ra hl hf ?_
    rintro g19 s r hl hf
    obtain rfl := oK k4
    exact ⟨rfl, r, hl, hf⟩
   refine Ra hl hf ?_
   rintro g20 s r hl hf
   obtain rfl := oK k3
   exact ⟨rfl, r, hl, hf⟩
  obtain rfl := oK k2
  exact ⟨by decide, ⟨rfl, ⟨r.2.1, r.2.2.1, trivial⟩, hl, hf⟩⟩
 intro j s hq
 obtain ⟨y6, rfl⟩ : ∃ x, x = o7 := ⟨_, rfl⟩
 try dsimp only at k1 hq
 obtain ⟨rfl, r, hl, hf⟩ := hq
 refine Ra hl hf ?_
 rintro g21 s r hl hf
 cases oK k1
 exact ⟨Or.inr rfl, hl, AI (Ob r.1)⟩
def UL := fun a0 a1 => Cq.mk (@au a0 a1)
theorem Xi {a0 : (Sl Int)} {r : Int} (k0 : IZ a0 = some r) : Fin zL 55 [zI.enc a0] (.int r) := by
 unfold IZ at k0; replace k0 := kq k0
 refine zU KT Y6 ?_
 rintro low s r hl hf
 have q27 := @Ib
 refine Ra hl hf ?_
 rintro g1 s r hl hf
 refine Ra hl hf ?_
 rintro g2 s r hl hf
 refine Ra hl hf ?_
 rintro g3 s r hl hf
 refine blk ?_
 obtain ⟨o7, l8, k1⟩ := bnk k0
 refine Ax (f := EQ a0) (E := fun (x : Int × Int) s => B6 [E_ 0 a0, I_ 3 x.1, I_ 4 x.2] s ∧ s.low = low ∧ NoB KT s) (Q := fun (y6 : Int) j s => j = .exit 0 ∧ B6 [I_ 3 y6] s ∧ s.low = low ∧ NoB KT s) l8 ?_ ⟨r, hl, hf⟩ ?_
 ·rintro ⟨x4, x5⟩ s out ⟨r, hl, hf⟩ k2
  dsimp only at r
  simp only [EQ] at k2
  refine Ra hl hf ?_
  rintro g9 s r hl hf
  refine DW r.2.2.2.1 k2 (fun c10 k2 => ?_) fun c10 k2 => ?_
  ·refine blk ?_
   obtain ⟨v11, h12, k3⟩ := bnk k2
   refine Ra hl hf ?_
   rintro g13 s r hl hf
   refine DW r.2.2.2.1 k3 (fun c14 k3 => ?_) fun c14 k3 => ?_
   ·obtain ⟨v15, h16, k4⟩ := bnk k3
    try clear h12
    obtain ⟨v17, h18, k5⟩ := bnk k4
    obtain ⟨v19, h20, k6⟩ := bnk k5
    have q22 := Fp h18
    have q23 := Fp h20
    refine Ra hl hf ?_
    rintro g21 s r hl hf
    refine Ra hl hf ?_
    rintro g24 s r hl hf
    obtain rfl := oK k6
    exact ⟨rfl, r, hl, hf⟩
   refine Ra hl hf ?_
   rintro g25 s r hl hf
   obtain rfl := oK k3
   exact ⟨rfl, r, hl, hf⟩
  obtain rfl := oK k2
  exact ⟨by decide, ⟨rfl, ⟨r.2.1, trivial⟩, hl, hf⟩⟩
 intro j s hq
 obtain ⟨y6, rfl⟩ : ∃ x, x = o7 := ⟨_, rfl⟩
 try dsimp only at k1 hq
 obtain ⟨rfl, r, hl, hf⟩ := hq
 refine Ra hl hf ?_
 rintro g26 s r hl hf
 cases oK k1
 exact ⟨Or.inr rfl, hl, AI (AK r.1)⟩
def ZX := fun a0 => Cq.mk (@Xi a0)
theorem Yd {a0 : BenchBook} {a1 : (Sl (Sl (Sl Int)))} {a2 : (Sl Int)} {a3 : (Sl Int)} {r : (Sl AB)} (k0 : Ho a0 a1 a2 a3 = some r) : Fin zL 27 [zI.enc a0, zI.enc a1, zI.enc a2, zI.enc a3] (zI.enc r) := by
 unfold Ho at k0; replace k0 := kq k0
 refine zU DF ci ?_
 rintro low s r hl hf
 have q102 := @OG
 have q103 := @OQ
 have q104 := @ZX
 have q105 := @Xx
 refine Ra hl hf ?_
 rintro g1 s r hl hf
 refine Ra hl hf ?_
 rintro g2 s r hl hf
 refine Ra hl hf ?_
 rintro g3 s r hl hf
 refine blk ?_
 obtain ⟨o7, l8, k1⟩ := bnk k0
 refine Ax (f := Eo a0 a1 a2 a3) (E := fun (x : (Sl AB) × Int) s => B6 [E_ 1 a1, E_ 2 a2, E_ 3 a3, C_ 4 g1 a0, (9, .v (Sl.lv x.1)), I_ 10 x.2] s ∧ s.low = low ∧ NoB DF s) (Q := fun (y6 : (Sl AB)) j s => j = .exit 0 ∧ B6 [C_ 4 g1 a0, (9, .v (Sl.lv y6))] s ∧ s.low = low ∧ NoB DF s) l8 ?_ ⟨r, hl, hf⟩ ?_
 ·rintro ⟨x4, x5⟩ s out ⟨r, hl, hf⟩ k2
  dsimp only at r
  simp only [Eo] at k2
  refine Ra hl hf ?_
  rintro g9 s r hl hf
  refine DW r.2.2.2.2.2.2.1 k2 (fun c10 k2 => ?_) fun c10 k2 => ?_
  ·refine blk <| Ra hl hf ?_
   rintro g11 s r hl hf
   refine Ra hl hf ?_
   rintro g12 s r hl hf
   refine blk ?_
   obtain ⟨o19, l20, k3⟩ := bnk k2
   refine Ax (f := Es a0 a1 a2 a3) (E := fun (x : (Sl AB) × Int × Int × Int) s => B6 [E_ 1 a1, E_ 2 a2, E_ 3 a3, C_ 4 g1 a0, (9, .v (Sl.lv x.1)), I_ 10 x.2.1, I_ 11 x.2.2.1, I_ 12 x.2.2.2] s ∧ s.low = low ∧ NoB DF s) (Q := fun (o : (Sl AB) × Int) j s => match o with | (y17, y18) => j = .exit 2 ∧ B6 [E_ 1 a1, E_ 2 a2, E_ 3 a3, C_ 4 g1 a0, (9, .v (Sl.lv y17)), I_ 10 y18] s ∧ s.low = low ∧ NoB DF s) l20 ?_ ⟨r, hl, hf⟩ ?_
   ·rintro ⟨x13, x14, x15, x16⟩ s out ⟨r, hl, hf⟩ k4
    dsimp only at r
    simp only [Es] at k4
    obtain ⟨v21, h22, k5⟩ := bnk k4
    obtain ⟨v23, h24, k6⟩ := bnk k5
    refine Ra hl hf ?_
    rintro g25 s r hl hf
    refine DW r.2.2.2.2.2.2.2.2.1 k6 (fun zo k6 => ?_) fun zo k6 => ?_
    ·refine blk ?_
     obtain ⟨v27, h28, k7⟩ := bnk k6
     try clear h22
     obtain ⟨v29, h30, k8⟩ := bnk k7
     obtain ⟨v31, h32, k9⟩ := bnk k8
     refine Ra hl hf ?_
     rintro g33 s r hl hf
     refine Ra hl hf ?_
     rintro g34 s r hl hf
     refine blk ?_
     obtain ⟨o40, l41, k10⟩ := bnk k9
     refine Ax (f := D6 a0 a2 a3 x14 x16 v31) (E := fun (x : Int × Int × Int) s => B6 [E_ 1 a1, E_ 2 a2, E_ 3 a3, C_ 4 g1 a0, (9, .v (Sl.lv x13)), I_ 10 x14, I_ 11 x.1, I_ 12 x16, E_ 13 v31, I_ 14 x.2.1, I_ 15 x.2.2] s ∧ s.low = low ∧ NoB DF s) (Q := fun (o : Int × Int) j s => match o with | (y38, y39) => j = .exit 4 ∧ B6 [E_ 1 a1, E_ 2 a2, E_ 3 a3, C_ 4 g1 a0, (9, .v (Sl.lv x13)), I_ 10 x14, I_ 11 y38, I_ 12 x16, I_ 14 y39] s ∧ s.low = low ∧ NoB DF s) l41 ?_ ⟨r, hl, hf⟩ ?_
     ·rintro ⟨x35, x36, x37⟩ s out ⟨r, hl, hf⟩ k11
      dsimp only at r
      simp only [D6] at k11
      obtain ⟨v42, h43, k12⟩ := bnk k11
      try clear h22
      try clear h28
      obtain ⟨v44, h45, k13⟩ := bnk k12
      obtain ⟨v46, h47, k14⟩ := bnk k13
      refine Ra hl hf ?_
      rintro g48 s r hl hf
      refine DW r.2.2.2.2.2.2.2.2.2.2.2.1 k14 (fun zh k14 => ?_) fun zh k14 => ?_
      ·refine blk ?_
       obtain ⟨v50, h51, k15⟩ := bnk k14
       obtain ⟨v52, h53, k16⟩ := bnk k15
       obtain ⟨v54, h55, k17⟩ := bnk k16
       have q57 := Fp h53
       refine Ra hl hf ?_
       rintro g56 s r hl hf
       refine Ra hl hf ?_
       rintro g58 s r hl hf
       refine DW r.2.2.2.2.2.2.2.2.2.2.2.2.1 k17 (fun zX k17 => ?_) fun zX k17 => ?_
       ·obtain ⟨v60, h61, k18⟩ := bnk k17
        obtain ⟨v62, h63, k19⟩ := bnk k18
        refine Ra hl hf ?_
        rintro g64 s r hl hf
        obtain ⟨v65, h66, k20⟩ := bnk k19
        obtain ⟨v67, h68, k21⟩ := bnk k20
        obtain ⟨v71, h72, k22⟩ := bnk k21
        have q74 := Fp h66
        have q75 := Fp h68
        have q76 := Fp h72
        refine Ra hl hf ?_
        rintro g73 s r hl hf
        refine Ra hl hf ?_
        rintro g77 s r hl hf
        obtain rfl := oK k22
        exact ⟨rfl, r, hl, hf⟩
       refine Ra hl hf ?_
       rintro g78 s r hl hf
       obtain rfl := oK k17
       exact ⟨rfl, r, hl, hf⟩
      obtain rfl := oK k14
      exact ⟨by decide, ⟨rfl, ⟨r.1, r.2.1, r.2.2.1, r.2.2.2.1, r.2.2.2.2.1, r.2.2.2.2.2.1, r.2.2.2.2.2.2.1, r.2.2.2.2.2.2.2.1, r.2.2.2.2.2.2.2.2.2.1, trivial⟩, hl, hf⟩⟩
     intro j s hq
     obtain ⟨y38, y39⟩ := o40
     try dsimp only at k10 hq
     obtain ⟨rfl, r, hl, hf⟩ := hq
     obtain ⟨v79, h80, k23⟩ := bnk k10
     refine Ra hl hf ?_
     rintro g81 s r hl hf
     refine Ra hl hf ?_
     rintro g82 s r hl hf
     refine blk ?_
     obtain ⟨o86, l87, k24⟩ := bnk k23
     refine Ax (f := E2 a2 x14 x16 v79) (E := fun (x : (Sl AB) × Int) s => B6 [E_ 1 a1, E_ 2 a2, E_ 3 a3, C_ 4 g1 a0, (9, .v (Sl.lv x.1)), I_ 10 x14, I_ 11 y38, I_ 12 x16, E_ 18 v79, I_ 19 x.2] s ∧ s.low = low ∧ NoB DF s) (Q := fun (y85 : (Sl AB)) j s => j = .exit 6 ∧ B6 [E_ 1 a1, E_ 2 a2, E_ 3 a3, C_ 4 g1 a0, (9, .v (Sl.lv y85)), I_ 10 x14, I_ 11 y38, I_ 12 x16] s ∧ s.low = low ∧ NoB DF s) l87 ?_ ⟨r, hl, hf⟩ ?_
     ·rintro ⟨x83, x84⟩ s out ⟨r, hl, hf⟩ k25
      dsimp only at r
      simp only [E2] at k25
      refine Ra hl hf ?_
      rintro g88 s r hl hf
      refine DW r.2.2.2.2.2.2.2.2.2.2.1 k25 (fun c89 k25 => ?_) fun c89 k25 => ?_
      ·refine blk ?_
       obtain ⟨v90, h91, k26⟩ := bnk k25
       try clear h22
       try clear h28
       try clear h43
       obtain ⟨v92, h93, k27⟩ := bnk k26
       obtain ⟨v94, h95, k28⟩ := bnk k27
       have q97 := E5 (sz := 3) (x := x83) (y := (Sl.cold [(BG v90 x16 v92)] : Sl AB)) rfl rfl h95
       refine Ra hl hf ?_
       rintro g96 s r hl hf
       refine Ra hl hf ?_
       rintro g98 s r hl hf
       obtain rfl := oK k28
       exact ⟨rfl, r, hl, hf⟩
      obtain rfl := oK k25
      exact ⟨by decide, ⟨rfl, ⟨r.1, r.2.1, r.2.2.1, r.2.2.2.1, r.2.2.2.2.1, r.2.2.2.2.2.1, r.2.2.2.2.2.2.1, r.2.2.2.2.2.2.2.1, trivial⟩, hl, hf⟩⟩
     intro j s hq
     obtain ⟨y85, rfl⟩ : ∃ x, x = o86 := ⟨_, rfl⟩
     try dsimp only at k24 hq
     obtain ⟨rfl, r, hl, hf⟩ := hq
     refine Ra hl hf ?_
     rintro g99 s r hl hf
     obtain rfl := oK k24
     exact ⟨rfl, r, hl, hf⟩
    obtain rfl := oK k6
    exact ⟨by decide, ⟨rfl, ⟨r.1, r.2.1, r.2.2.1, r.2.2.2.1, r.2.2.2.2.1, r.2.2.2.2.2.1, trivial⟩, hl, hf⟩⟩
   intro j s hq
   obtain ⟨y17, y18⟩ := o19
   try dsimp only at k3 hq
   obtain ⟨rfl, r, hl, hf⟩ := hq
   refine Ra hl hf ?_
   rintro g100 s r hl hf
   obtain rfl := oK k3
   exact ⟨rfl, r, hl, hf⟩
  obtain rfl := oK k2
  exact ⟨by decide, ⟨rfl, ⟨r.2.2.2.1, r.2.2.2.2.1, trivial⟩, hl, hf⟩⟩
 intro j s hq
 obtain ⟨y6, rfl⟩ : ∃ x, x = o7 := ⟨_, rfl⟩
 try dsimp only at k1 hq
 obtain ⟨rfl, r, hl, hf⟩ := hq
 refine Ra hl hf ?_
 rintro g101 s r hl hf
 cases oK k1
 exact ⟨Or.inr rfl, hl, AI (Ob r.1)⟩
def SV := fun a0 a1 a2 a3 => Cq.mk (@Yd a0 a1 a2 a3)
theorem Uj {a0 : (Sl Int)} {a1 : (Sl Int)} {r : Bool} (k0 : FQ a0 a1 = some r) : Fin zL 56 [zI.enc a0, zI.enc a1] (.bool r) := by
 unfold FQ at k0; replace k0 := kq k0
 refine zU JP OX ?_
 rintro low s r hl hf
 refine Ra hl hf ?_
 rintro g1 s r hl hf
 refine Ra hl hf ?_
 rintro g2 s r hl hf
 refine blk ?_
 obtain ⟨o5, l6, k1⟩ := bnk k0
 refine Ax (f := BQ a0 a1) (E := fun (x : Int) s => B6 [E_ 0 a0, E_ 1 a1, I_ 5 x] s ∧ s.low = low ∧ NoB JP s) (Q := fun (o : ((Bool) ⊕ (Unit))) j s => match o with | .inl w4 => j = .ret ∧ FnJ OX.1 low (.d (.bool w4)) .ret s | .inr _ => j = .exit 0 ∧ B6 [E_ 0 a0, E_ 1 a1] s ∧ s.low = low ∧ NoB JP s) l6 ?_ ⟨r, hl, hf⟩ ?_
 ·rintro x3 s out ⟨r, hl, hf⟩ k2
  unfold BQ at k2
  refine Rx (fun g9 => [B_ 15 ((decide (x3 < a0.len)) && (decide (x3 < a1.len)))]) hl hf ?_
  rintro g9 s r hl hf
  refine DW r.2.2.2.1 k2 (fun c10 k2 => ?_) fun c10 k2 => ?_
  ·refine blk ?_
   obtain ⟨v11, h12, k3⟩ := bnk k2
   obtain ⟨v13, h14, k4⟩ := bnk k3
   refine Ra hl hf ?_
   rintro g15 s r hl hf
   refine Kw r.2.2.2.1 k4 (fun c16 k4 => ?_) fun c16 k4 => ?_
   ·refine Ra hl hf ?_
    rintro g17 s r hl hf
    obtain rfl := oK k4
    exact ⟨rfl, r, hl, hf⟩
   obtain ⟨v18, h19, k5⟩ := bnk k4
   try clear h12
   obtain ⟨v20, h21, k6⟩ := bnk k5
   try clear h14
   refine Ra hl hf ?_
   rintro g22 s r hl hf
   obtain rfl := oK k6
   exact ⟨by decide, ⟨rfl, ⟨Or.inr rfl, hl, AI (AK r.1)⟩⟩⟩
  obtain rfl := oK k2
  exact ⟨by decide, ⟨rfl, ⟨r.1, r.2.1, trivial⟩, hl, hf⟩⟩
 intro j s hq
 rcases o5 with w4 | _
 ·try dsimp only at k1 hq
  obtain ⟨rfl, hq⟩ := hq
  cases oK k1
  exact hq
 try dsimp only at k1 hq
 obtain ⟨rfl, r, hl, hf⟩ := hq
 refine Ra hl hf ?_
 rintro g23 s r hl hf
 cases oK k1
 exact ⟨Or.inr rfl, hl, AI (AK r.1)⟩
def Nr := fun a0 a1 => Cq.mk (@Uj a0 a1)
theorem X9 {a0 : (Sl AB)} {a1 : (Sl AB)} {r : Bool} (k0 : IO a0 a1 = some r) : Fin zL 28 [zI.enc a0, zI.enc a1] (.bool r) := by
 unfold IO at k0; replace k0 := kq k0
 refine zU KU Pm ?_
 rintro low s r hl hf
 have q24 := @Nr
 have q25 := @Q8
 refine Ra hl hf ?_
 rintro g1 s r hl hf
 refine Ra hl hf ?_
 rintro g2 s r hl hf
 refine blk ?_
 obtain ⟨o5, l6, k1⟩ := bnk k0
 refine Ax (f := BV a0 a1) (E := fun (x : Int) s => B6 [E_ 0 a0, E_ 1 a1, I_ 5 x] s ∧ s.low = low ∧ NoB KU s) (Q := fun (o : ((Bool) ⊕ (Unit))) j s => match o with | .inl w4 => j = .ret ∧ FnJ Pm.1 low (.d (.bool w4)) .ret s | .inr _ => j = .exit 0 ∧ B6 [E_ 0 a0, E_ 1 a1] s ∧ s.low = low ∧ NoB KU s) l6 ?_ ⟨r, hl, hf⟩ ?_
 ·rintro x3 s out ⟨r, hl, hf⟩ k2
  unfold BV at k2
  have q8 := @V3
  refine Ra hl hf ?_
  rintro g7 s r hl hf
  refine DW r.2.2.2.1 k2 (fun c9 k2 => ?_) fun c9 k2 => ?_
  ·refine blk ?_
   obtain ⟨v10, h11, k3⟩ := bnk k2
   obtain ⟨v12, h13, k4⟩ := bnk k3
   refine Ra hl hf ?_
   rintro g14 s r hl hf
   obtain ⟨v15, h16, k5⟩ := bnk k4
   refine Ra hl hf ?_
   rintro g17 s r hl hf
   refine Kw r.2.2.2.2.2.1 k5 (fun c18 k5 => ?_) fun c18 k5 => ?_
   ·refine Ra hl hf ?_
    rintro g19 s r hl hf
    obtain rfl := oK k5
    exact ⟨rfl, r, hl, hf⟩
   obtain ⟨v20, h21, k6⟩ := bnk k5
   refine Ra hl hf ?_
   rintro g22 s r hl hf
   obtain rfl := oK k6
   exact ⟨by decide, ⟨rfl, ⟨Or.inr rfl, hl, AI (AK r.1)⟩⟩⟩
  obtain rfl := oK k2
  exact ⟨by decide, ⟨rfl, ⟨r.1, r.2.1, trivial⟩, hl, hf⟩⟩
 intro j s hq
 rcases o5 with w4 | _
 ·try dsimp only at k1 hq
  obtain ⟨rfl, hq⟩ := hq
  cases oK k1
  exact hq
 try dsimp only at k1 hq
 obtain ⟨rfl, r, hl, hf⟩ := hq
 refine Ra hl hf ?_
 rintro g23 s r hl hf
 cases oK k1
 exact ⟨Or.inr rfl, hl, AI (AK r.1)⟩
def Yx := fun a0 a1 => Cq.mk (@X9 a0 a1)
theorem J6 {a0 : BenchBook} {a1 : (Sl Int)} {r : Bool} (k0 : G2 a0 a1 = some r) : Fin zL 5 [zI.enc a0, zI.enc a1] (.bool r) := by
 unfold G2 at k0; replace k0 := kq k0
 refine zU TU S0 ?_
 rintro low s r hl hf
 have q101 := @H3
 have q102 := @OJ
 have q103 := @Ll
 have q104 := @OS
 have q105 := @Nz
 have q106 := @Yx
 have q107 := @SV
 have q108 := @KV
 have q109 := @UI
 have q110 := @GG
 have q111 := @UL
 have q112 := @HE
 have q113 := @Jg
 refine Ra hl hf ?_
 rintro g1 s r hl hf
 obtain ⟨v2, h3, k1⟩ := bnk k0
 refine Ra hl hf ?_
 rintro g4 s r hl hf
 obtain ⟨v5, h6, k2⟩ := bnk k1
 refine Ra hl hf ?_
 rintro g7 s r hl hf
 refine Kw r.2.2.2.2.1 k2 (fun c8 k2 => ?_) fun c8 k2 => ?_
 ·obtain ⟨v9, h10, k3⟩ := bnk k2
  refine Ra hl hf ?_
  rintro g11 s r hl hf
  obtain ⟨v12, h13, k4⟩ := bnk k3
  refine Ra hl hf ?_
  rintro g14 s r hl hf
  obtain ⟨v15, h16, k5⟩ := bnk k4
  refine Ra hl hf ?_
  rintro g17 s r hl hf
  refine Ra hl hf ?_
  rintro g18 s r hl hf
  refine Kw r.2.2.2.2.2.2.2.2.2.2.1 k5 (fun c19 k5 => ?_) fun c19 k5 => ?_
  ·obtain ⟨v20, h21, k6⟩ := bnk k5
   refine Ra hl hf ?_
   rintro g22 s r hl hf
   obtain ⟨o37, q, k7⟩ := bnk k6
   refine Rq (fun g39 => [B_ 130 o37]) hl hf q ?_
   rintro g39 s r hl hf
   refine DW r.2.2.2.2.2.2.2.1 k7 (fun c40 k7 => ?_) fun c40 k7 => ?_
   ·refine Ra hl hf ?_
    rintro g41 s r hl hf
    cases oK k7
    exact ⟨Or.inr rfl, hl, AI (AK r.1)⟩
   obtain ⟨v42, h43, k8⟩ := bnk k7
   refine Ra hl hf ?_
   rintro g44 s r hl hf
   obtain ⟨o51, q, k9⟩ := bnk k8
   refine Rq (fun g53 => [B_ 151 o51]) hl hf q ?_
   rintro g53 s r hl hf
   refine DW r.2.2.2.2.2.2.2.1 k9 (fun c54 k9 => ?_) fun c54 k9 => ?_
   ·refine Ra hl hf ?_
    rintro g55 s r hl hf
    cases oK k9
    exact ⟨Or.inr rfl, hl, AI (AK r.1)⟩
   obtain ⟨v56, h57, k10⟩ := bnk k9
   refine Ra hl hf ?_
   rintro g58 s r hl hf
   obtain ⟨o81, q, k11⟩ := bnk k10
   refine Rq (fun g83 => [B_ 4 o81]) hl hf q ?_
   rintro g83 s r hl hf
   cases oK k11
   exact ⟨Or.inr rfl, hl, AI (AK r.1)⟩
  obtain ⟨o91, q, k12⟩ := bnk k5
  refine Rq (fun g93 => [B_ 4 o91]) hl hf q ?_
  rintro g93 s r hl hf
  cases oK k12
  exact ⟨Or.inr rfl, hl, AI (AK r.1)⟩
 obtain ⟨o98, q, k13⟩ := bnk k2
 refine Rq (fun g100 => [B_ 4 o98]) hl hf q ?_
 rintro g100 s r hl hf
 cases oK k13
 exact ⟨Or.inr rfl, hl, AI (AK r.1)⟩
def oS := fun a0 a1 => Cq.mk (@J6 a0 a1)
theorem Up {a0 : (Sl Int)} {a1 : (Sl Int)} {r : Bool} (k0 : G5 a0 a1 = some r) : Fin zL 30 [zI.enc a0, zI.enc a1] (.bool r) := by
 unfold G5 at k0; replace k0 := kq k0
 refine zU WY X2 ?_
 rintro low s r hl hf
 have q9 := @Nr
 refine Ra hl hf ?_
 rintro g1 s r hl hf
 obtain ⟨o6, q, k1⟩ := bnk k0
 refine Rq (fun g8 => [B_ 4 o6]) hl hf q ?_
 rintro g8 s r hl hf
 cases oK k1
 exact ⟨Or.inr rfl, hl, AI (AK r.1)⟩
def XP := fun a0 a1 => Cq.mk (@Up a0 a1)
theorem Ir {a0 : BenchBook} {a1 : (Sl Int)} {a2 : Int} {r : Bool} (k0 : FT a0 a1 a2 = some r) : Fin zL 6 [zI.enc a0, zI.enc a1, .int a2] (.bool r) := by
 unfold FT at k0; replace k0 := kq k0
 refine zU QO QZ ?_
 rintro low s r hl hf
 have q75 := @H3
 have q76 := @QA
 have q77 := @Nz
 have q78 := @SV
 have q79 := @KV
 have q80 := @GG
 have q81 := @UL
 have q82 := @HE
 have q83 := @OQ
 have q84 := @Jg
 have q85 := @XP
 have q86 := @IM
 have q87 := @NE
 refine Ra hl hf ?_
 rintro g1 s r hl hf
 obtain ⟨v2, h3, k1⟩ := bnk k0
 refine Ra hl hf ?_
 rintro g4 s r hl hf
 obtain ⟨v5, h6, k2⟩ := bnk k1
 refine Ra hl hf ?_
 rintro g7 s r hl hf
 refine Kw r.2.2.2.2.2.1 k2 (fun c8 k2 => ?_) fun c8 k2 => ?_
 ·refine Ra hl hf ?_
  rintro g9 s r hl hf
  refine Kw r.2.2.2.2.2.1 k2 (fun c10 k2 => ?_) fun c10 k2 => ?_
  ·obtain ⟨v11, h12, k3⟩ := bnk k2
   refine Ra hl hf ?_
   rintro g13 s r hl hf
   obtain ⟨o17, q, k4⟩ := bnk k3
   refine Rq (fun g19 => [B_ 76 o17]) hl hf q ?_
   rintro g19 s r hl hf
   refine DW r.2.2.2.2.2.1 k4 (fun c20 k4 => ?_) fun c20 k4 => ?_
   ·refine Ra hl hf ?_
    rintro g21 s r hl hf
    cases oK k4
    exact ⟨Or.inr rfl, hl, AI (AK r.1)⟩
   obtain ⟨v22, h23, k5⟩ := bnk k4
   obtain ⟨v24, h25, k6⟩ := bnk k5
   obtain ⟨v26, h27, k7⟩ := bnk k6
   have q29 := Fp h23
   refine Ra hl hf ?_
   rintro g28 s r hl hf
   obtain ⟨v30, h31, k8⟩ := bnk k7
   refine Ra hl hf ?_
   rintro g32 s r hl hf
   refine Kw r.2.2.2.2.1 k8 (fun c33 k8 => ?_) fun c33 k8 => ?_
   ·obtain ⟨v34, h35, k9⟩ := bnk k8
    refine Ra hl hf ?_
    rintro g36 s r hl hf
    obtain ⟨v37, h38, k10⟩ := bnk k9
    refine Ra hl hf ?_
    rintro g39 s r hl hf
    obtain ⟨v40, h41, k11⟩ := bnk k10
    refine Ra hl hf ?_
    rintro g42 s r hl hf
    obtain ⟨o50, q, k12⟩ := bnk k11
    refine Rq (fun g52 => [B_ 6 o50]) hl hf q ?_
    rintro g52 s r hl hf
    cases oK k12
    exact ⟨Or.inr rfl, hl, AI (AK r.1)⟩
   obtain ⟨v53, h54, k13⟩ := bnk k8
   refine Ra hl hf ?_
   rintro g55 s r hl hf
   cases oK k13
   exact ⟨Or.inr rfl, hl, AI (AK r.1)⟩
  obtain ⟨v56, h57, k14⟩ := bnk k2
  refine Ra hl hf ?_
  rintro g58 s r hl hf
  obtain ⟨o65, q, k15⟩ := bnk k14
  try clear h54
  refine Rq (fun g67 => [B_ 6 o65]) hl hf q ?_
  rintro g67 s r hl hf
  cases oK k15
  exact ⟨Or.inr rfl, hl, AI (AK r.1)⟩
 obtain ⟨o72, q, k16⟩ := bnk k2
 try clear h54
 refine Rq (fun g74 => [B_ 6 o72]) hl hf q ?_
 rintro g74 s r hl hf
 cases oK k16
 exact ⟨Or.inr rfl, hl, AI (AK r.1)⟩
def j6 := fun a0 a1 a2 => Cq.mk (@Ir a0 a1 a2)
theorem KF {a0 : BenchBook} {a1 : Int} {r : Bool} (k0 : HH a0 a1 = some r) : Fin zL 7 [zI.enc a0, .int a1] (.bool r) := by
 unfold HH at k0; replace k0 := kq k0
 refine zU TN S3 ?_
 rintro low s r hl hf
 have q85 := @H3
 have q86 := @T8
 have q87 := @OS
 have q88 := @GG
 have q89 := @HE
 have q90 := @Ib
 have q91 := @IM
 have q92 := @MG
 refine Ra hl hf ?_
 rintro g1 s r hl hf
 obtain ⟨v2, h3, k1⟩ := bnk k0
 refine Ra hl hf ?_
 rintro g4 s r hl hf
 refine Kw r.2.2.1 k1 (fun c5 k1 => ?_) fun c5 k1 => ?_
 ·obtain ⟨v6, h7, k2⟩ := bnk k1
  refine Ra hl hf ?_
  rintro g8 s r hl hf
  obtain ⟨v9, h10, k3⟩ := bnk k2
  refine Ra hl hf ?_
  rintro g11 s r hl hf
  obtain ⟨v12, h13, k4⟩ := bnk k3
  refine Ra hl hf ?_
  rintro g14 s r hl hf
  refine Ra hl hf ?_
  rintro g15 s r hl hf
  refine Kw r.2.2.2.2.2.2.1 k4 (fun c16 k4 => ?_) fun c16 k4 => ?_
  ·refine Ra hl hf ?_
   rintro g17 s r hl hf
   obtain ⟨v18, h19, k5⟩ := bnk k4
   have q21 := @TC
   refine Ra hl hf ?_ (h := by intro c; simp only [(Tn (v := (Sl.hot [v18] : Sl AE)) rfl), rt, ps, nob hf, *, reduceCtorEq, Nat.reduceEqDiff, Nat.reduceAdd, Nat.reduceMul] <;> rfl)
   rintro g20 s r hl hf
   obtain ⟨v23, h24, k6⟩ := bnk k5
   have q26 := @HM
   refine Ra hl hf ?_
   rintro g25 s r hl hf
   refine Rx (fun g32 => [B_ 85 (if (decide (v23.2 = 0)) then (if (decide (v9.2 = 0)) then ((decide (v23.1.len = 0)) != (decide (v9.2 = 4))) else (if (decide (v9.2 = 4)) then (if (decide (v9.1 = 0)) then (!(decide (v23.1.len = 0))) else true) else true)) else true)]) hl hf ?_
   rintro g32 s r hl hf
   refine DW r.2.2.2.2.2.2.1 k6 (fun c33 k6 => ?_) fun c33 k6 => ?_
   ·refine Ra hl hf ?_
    rintro g34 s r hl hf
    cases oK k6
    exact ⟨Or.inr rfl, hl, AI (AK r.1)⟩
   refine Ra hl hf ?_
   rintro g35 s r hl hf
   refine Kw r.2.2.2.2.2.1 k6 (fun c36 k6 => ?_) fun c36 k6 => ?_
   ·obtain ⟨o42, q, k7⟩ := bnk k6
    try clear h19
    try clear h53
    refine Rq (fun g44 => [B_ 105 o42]) hl hf q ?_
    rintro g44 s r hl hf
    refine DW r.2.2.2.2.1 k7 (fun c45 k7 => ?_) fun c45 k7 => ?_
    ·refine Ra hl hf ?_
     rintro g46 s r hl hf
     cases oK k7
     exact ⟨Or.inr rfl, hl, AI (AK r.1)⟩
    refine Ra hl hf ?_
    rintro g47 s r hl hf
    refine DW r.2.2.2.2.1 k7 (fun c48 k7 => ?_) fun c48 k7 => ?_
    ·obtain ⟨v49, h50, k8⟩ := bnk k7
     refine Ra hl hf ?_
     rintro g51 s r hl hf
     cases oK k8
     exact ⟨Or.inr rfl, hl, AI (AK r.1)⟩
    obtain ⟨v52, h53, k9⟩ := bnk k7
    try clear h19
    obtain ⟨v54, h55, k10⟩ := bnk k9
    have q57 := @TC
    have q58 := kM (sz := 3) rfl h55
    refine Ra hl hf ?_ (h := by intro c; simp only [(PN (v := (Sl.hot [(AE.mk v52.Week v54)] : Sl AE)) rfl), rt, ps, nob hf, *, reduceCtorEq, Nat.reduceEqDiff, Nat.reduceAdd, Nat.reduceMul] <;> rfl)
    rintro g56 s r hl hf
    obtain ⟨v60, h61, k11⟩ := bnk k10
    have q63 := @HM
    refine Ra hl hf ?_
    rintro g62 s r hl hf
    obtain ⟨o68, q, k12⟩ := bnk k11
    try clear h50
    refine Rq (fun g70 => [B_ 4 o68]) hl hf q ?_
    rintro g70 s r hl hf
    cases oK k12
    exact ⟨Or.inr rfl, hl, AI (AK r.1)⟩
   obtain ⟨v71, h72, k13⟩ := bnk k6
   try clear h50
   refine Ra hl hf ?_
   rintro g73 s r hl hf
   cases oK k13
   exact ⟨Or.inr rfl, hl, AI (AK r.1)⟩
  obtain ⟨o79, q, k14⟩ := bnk k4
  try clear h50
  try clear h72
  refine Rq (fun g81 => [B_ 4 o79]) hl hf q ?_
  rintro g81 s r hl hf
  cases oK k14
  exact ⟨Or.inr rfl, hl, AI (AK r.1)⟩
 obtain ⟨v82, h83, k15⟩ := bnk k1
 try clear h50
 try clear h72
 refine Ra hl hf ?_
 rintro g84 s r hl hf
 cases oK k15
 exact ⟨Or.inr rfl, hl, AI (AK r.1)⟩
def oP := fun a0 a1 => Cq.mk (@KF a0 a1)
end Go.Lf
