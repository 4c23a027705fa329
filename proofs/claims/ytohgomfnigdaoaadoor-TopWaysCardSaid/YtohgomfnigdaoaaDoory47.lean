/- A part of the proof. -/
import Derived.Test.YtohgomfnigdaoaaDoory18
import Derived.Test.YtohgomfnigdaoaaDoory20
import Derived.Test.YtohgomfnigdaoaaDoory22
import Derived.Test.YtohgomfnigdaoaaDoory41
import Derived.Test.YtohgomfnigdaoaaDoory46
import Derived.LaidMore
import Derived.LaidHandle
import Derived.Test.YtohgomfnigdaoaaDoorRows
set_option linter.all false
namespace Go.Lf
open Go Go.Proofs Go.Proofs.YtohgomfnigdaoaaDoor
set_option maxRecDepth 100000
noncomputable abbrev zP : Program := Tryd.prog
theorem zi : zP.underlying 3 = some (.int .i64) := Tryd.underlying3
theorem c3 : zP.cellsOf 3 = 1 := by kernel_rfl
theorem c22 : zP.cellsOf 22 = 1 := by kernel_rfl
theorem c23 : zP.cellsOf 23 = 1 := by kernel_rfl
theorem c25 : zP.cellsOf 25 = 3 := by kernel_rfl
theorem c26 : zP.cellsOf 26 = 1 := by kernel_rfl
theorem c33 : zP.cellsOf 33 = 2 := by kernel_rfl
theorem c56 : zP.cellsOf 56 = 4 := by kernel_rfl
theorem zQ : zP.cellsOf 118 = 11 := by kernel_rfl
theorem zF : zP.cellsOf 120 = 4 := by kernel_rfl
theorem b3 : zP.bytesOf 3 = 8 := by kernel_rfl
theorem zY : zP.bytesOf 118 = 88 := by kernel_rfl
theorem za : zP.bytesOf 120 = 32 := by kernel_rfl
theorem few {n : Nat} (h : n ≤ reachBytes) : n < 4611686018427387904 := Nat.lt_of_le_of_lt h (by decide)
theorem r3 : Rd zP 3 Int (fun _ => True) := Rd.int zi
theorem r33 : Rd zP 33 BS (fun _ => True) := nQ BS.mk Tryd.underlying33 r3 r3 c3 c3 rfl rfl c33 (fun _ _ => rfl) (fun _ _ _ _ => trivial)
theorem AAI : Rd zP 118 AL (fun _ => True) := ni AL.mk Tryd.underlying118 r33 r33 r33 r33 r3 r33 c33 c33 c33 c33 c3 c33 rfl rfl rfl rfl rfl rfl zQ (fun _ _ _ _ _ _ => rfl) (fun _ _ _ _ _ _ _ _ _ _ _ _ => trivial)
theorem r22 : Rd zP 22 (Sl AL) (fun s => s.l.length ≤ reachBytes ∧ ∀ y ∈ s.l, True) := Rd.slice Tryd.underlying22 zQ (by decide) (by rw [zY]; decide) AAI
theorem zh : Rd zP 120 AI (fun _ => True) := mX AI.mk Tryd.underlying120 r3 r3 r3 r3 c3 c3 c3 c3 rfl rfl rfl rfl zF (fun _ _ _ _ => rfl) (fun _ _ _ _ _ _ _ _ => trivial)
theorem r23 : Rd zP 23 (Sl AI) (fun s => s.l.length ≤ reachBytes ∧ ∀ y ∈ s.l, True) := Rd.slice Tryd.underlying23 zF (by decide) (by rw [za]; decide) zh
theorem r25 : Rd zP 25 VoiceBook dU := nZ VoiceBook.mk Tryd.underlying25 r22 r3 r23 c22 c3 c23 rfl rfl rfl c25 (fun _ _ _ => rfl) (fun _ _ _ h1 _ h2 => ⟨few h1.1, few h2.1⟩)
theorem r56 : Rd zP 56 (Ar 4 Int) (fun s => ∀ y ∈ s.l, True) := Rd.array Tryd.underlying56 c3 c56 r3
theorem r26 : Rd zP 26 (Sl Int) (fun s => s.l.length ≤ reachBytes ∧ ∀ y ∈ s.l, True) := Rd.slice Tryd.underlying26 c3 (by decide) (by rw [b3]; decide) r3
theorem UD {t : TypeId} {f0 f1 : Field} (ht : zP.underlying t = some (.struct #[f0, f1])) (h0 : f0.type = 3) (h1 : f1.type = 3) (o0 : f0.offset = 0) (o1 : f1.offset = 1) (hc : zP.cellsOf t = 2)
  {H : Type} {enc : TypeId × Value → H} {W : World} {held : Bool} {sp : Nat → Bool} {fuel : Nat} {cs : List Value} {a b : Int} {p : List MemPlace} (h : DataW.trod enc zP W 0 sp held fuel t cs = some (.agg [.lit (.int .i64 a), .lit (.int .i64 b)], p)) :
  cs = [a, b].map fun z => Value.int .i64 z := by
 obtain ⟨xs, n, _, hx, hl, hxl, hget⟩ := DataW.trod_struct ht h
 simp only [List.size_toArray, List.length_cons, List.length_nil] at hxl
 have g0 := hget 0 f0 rfl
 have g1 := hget 1 f1 rfl
 rw [h0, o0, c3] at g0
 rw [h1, o1, c3] at g1
 match xs, hxl with
 | [x0, x1], _ =>
  obtain ⟨k0, e0, y0, _⟩ := DataW.trod_int zi g0
  obtain ⟨k1, e1, y1, _⟩ := DataW.trod_int zi g1
  simp only [Prod.mk.injEq, DataW.agg.injEq, List.map_cons, List.map_nil, List.cons.injEq, y0, y1, DataW.lit.injEq, Lit.int.injEq, true_and, and_true] at hx
  obtain ⟨⟨rfl, rfl⟩, _⟩ := hx
  rw [hc] at hl
  match cs, hl with
  | [v0, v1], _ =>
   simp at e0 e1
   rw [e0, e1]
   rfl
theorem P5 : zP.globalNamed "decani/part.silence" = some 4 := by kernel_rfl
theorem Yb : (zP.globals[4]?).map (·.type) = some 143 := by kernel_rfl
theorem QF : zP.globalNamed "decani/part.nowhere" = some 1 := by kernel_rfl
theorem Y9 : (zP.globals[1]?).map (·.type) = some 138 := by kernel_rfl
theorem Nw : zP.globalNamed "decani/part.measures" = some 6 := by kernel_rfl
theorem XR : (zP.globals[6]?).map (·.type) = some 177 := by kernel_rfl
theorem On : zP.globalNamed "decani/voice.unknown" = some 5 := by kernel_rfl
theorem YC : (zP.globals[5]?).map (·.type) = some 153 := by kernel_rfl
theorem QE : zP.globalNamed "decani/voice.nobody" = some 3 := by kernel_rfl
theorem ZZ : (zP.globals[3]?).map (·.type) = some 151 := by kernel_rfl
theorem OV : zP.globalNamed "decani/voice.kindsOf" = some 0 := by kernel_rfl
theorem YX : (zP.globals[0]?).map (·.type) = some 112 := by kernel_rfl
theorem Oz : zP.globalNamed "decani/bench.nowhere" = some 2 := by kernel_rfl
theorem XI : (zP.globals[2]?).map (·.type) = some 79 := by kernel_rfl
def mc : List (String × DataW Unit) := [("decani/part.silence", Rows.laid_decani_part_silence), ("decani/part.nowhere", Rows.laid_decani_part_nowhere), ("decani/part.measures", Rows.laid_decani_part_measures), ("decani/voice.unknown", Rows.laid_decani_voice_unknown), ("decani/voice.nobody", Rows.laid_decani_voice_nobody), ("decani/voice.kindsOf", Rows.laid_decani_voice_kindsOf), ("decani/bench.nowhere", Rows.laid_decani_bench_nowhere)]
theorem aw {W : World} (h : laidMetH zP mc W) : ∀ n, DX (DL W).im (DL W).fm (.pointer (some ⟨n, 0, none⟩)) (.fptr (zT.globs n) 0) := by
 obtain ⟨g, t, cs, fuel, p, hg, ht, hv, hd⟩ := h.funcs (n := "decani/part.measures") (d := .agg [.iface "func" (.lit (.string [40, 100, 101, 99, 97, 110, 105, 47, 112, 97, 114, 116, 46, 119, 97, 121, 41, 46, 115, 116, 101, 112])), .iface "func" (.lit (.string [40, 100, 101, 99, 97, 110, 105, 47, 112, 97, 114, 116, 46, 119, 97, 121, 41, 46, 97, 98, 111, 118, 101]))]) (by simp [mc, Rows.laid_decani_part_measures])
 obtain rfl := Option.some.inj (Nw.symm.trans hg)
 obtain rfl := Option.some.inj (XR.symm.trans ht)
 have r3 : Bv W cs.toList [.fn 107 [] [], .fn 103 [] []] := by
  obtain ⟨xs, m, _, hx, hl, hxl, hget⟩ := DataW.trod_array Tryd.underlying177 hd
  have ce : zP.cellsOf 176 = 1 := by kernel_rfl
  have ct : zP.cellsOf 177 = 2 := by kernel_rfl
  rw [ct] at hl
  have g0 := hget 0 (by decide)
  have g1 := hget 1 (by decide)
  rw [ce] at g0 g1
  obtain ⟨vs⟩ := cs
  match xs, hxl, vs, hl with
  | [x0, x1], _, [v0, v1], _ =>
   have hx' : x0.1 = .held [40, 100, 101, 99, 97, 110, 105, 47, 112, 97, 114, 116, 46, 119, 97, 121, 41, 46, 115, 116, 101, 112] ∧ x1.1 = .held [40, 100, 101, 99, 97, 110, 105, 47, 112, 97, 114, 116, 46, 119, 97, 121, 41, 46, 97, 98, 111, 118, 101] := by
    have := congrArg Prod.fst hx
    have := DataW.agg.inj (this.symm.trans (show _ = DataW.agg [.held [40, 100, 101, 99, 97, 110, 105, 47, 112, 97, 114, 116, 46, 119, 97, 121, 41, 46, 115, 116, 101, 112], .held [40, 100, 101, 99, 97, 110, 105, 47, 112, 97, 114, 116, 46, 119, 97, 121, 41, 46, 97, 98, 111, 118, 101]] from rfl))
    simpa using this
   obtain ⟨y0, y1⟩ := hx'
   have f0 : DataW.trod (funcToken zP) zP W 0 (fun _ => true) true m 176 [v0] = some (.held [40, 100, 101, 99, 97, 110, 105, 47, 112, 97, 114, 116, 46, 119, 97, 121, 41, 46, 115, 116, 101, 112], x0.2) := by rw [← y0]; exact g0
   obtain rfl := func_of_trod (f0 := 107) Tryd.underlying176 (by kernel_rfl) f0
   have f1 : DataW.trod (funcToken zP) zP W 0 (fun _ => true) true m 176 [v1] = some (.held [40, 100, 101, 99, 97, 110, 105, 47, 112, 97, 114, 116, 46, 119, 97, 121, 41, 46, 97, 98, 111, 118, 101], x1.2) := by rw [← y1]; exact g1
   obtain rfl := func_of_trod (f0 := 103) Tryd.underlying176 (by kernel_rfl) f1
   exact (Bv.append (Bv.one1 rfl (.fn 107 #[] #[] [] [] rfl rfl (by simp) (by simp))) (Bv.one1 rfl (.fn 103 #[] #[] [] [] rfl rfl (by simp) (by simp))))
 have k6 := L9 Nw hv r3
 clear hd hv r3
 obtain ⟨g, t, cs, fuel, p, hg, ht, hv, hd⟩ := h.funcs (n := "decani/voice.kindsOf") (d := .agg [.iface "func" (.lit (.string [40, 100, 101, 99, 97, 110, 105, 47, 118, 111, 105, 99, 101, 46, 118, 111, 116, 101, 115, 41, 46, 115, 111, 109, 101])), .iface "func" (.lit (.string [40, 100, 101, 99, 97, 110, 105, 47, 118, 111, 105, 99, 101, 46, 118, 111, 116, 101, 115, 41, 46, 101, 97, 99, 104]))]) (by simp [mc, Rows.laid_decani_voice_kindsOf])
 obtain rfl := Option.some.inj (OV.symm.trans hg)
 obtain rfl := Option.some.inj (YX.symm.trans ht)
 have r3 : Bv W cs.toList [.fn 105 [] [], .fn 106 [] []] := by
  obtain ⟨xs, m, _, hx, hl, hxl, hget⟩ := DataW.trod_array Tryd.underlying112 hd
  have ce : zP.cellsOf 111 = 1 := by kernel_rfl
  have ct : zP.cellsOf 112 = 2 := by kernel_rfl
  rw [ct] at hl
  have g0 := hget 0 (by decide)
  have g1 := hget 1 (by decide)
  rw [ce] at g0 g1
  obtain ⟨vs⟩ := cs
  match xs, hxl, vs, hl with
  | [x0, x1], _, [v0, v1], _ =>
   have hx' : x0.1 = .held [40, 100, 101, 99, 97, 110, 105, 47, 118, 111, 105, 99, 101, 46, 118, 111, 116, 101, 115, 41, 46, 115, 111, 109, 101] ∧ x1.1 = .held [40, 100, 101, 99, 97, 110, 105, 47, 118, 111, 105, 99, 101, 46, 118, 111, 116, 101, 115, 41, 46, 101, 97, 99, 104] := by
    have := congrArg Prod.fst hx
    have := DataW.agg.inj (this.symm.trans (show _ = DataW.agg [.held [40, 100, 101, 99, 97, 110, 105, 47, 118, 111, 105, 99, 101, 46, 118, 111, 116, 101, 115, 41, 46, 115, 111, 109, 101], .held [40, 100, 101, 99, 97, 110, 105, 47, 118, 111, 105, 99, 101, 46, 118, 111, 116, 101, 115, 41, 46, 101, 97, 99, 104]] from rfl))
    simpa using this
   obtain ⟨y0, y1⟩ := hx'
   have f0 : DataW.trod (funcToken zP) zP W 0 (fun _ => true) true m 111 [v0] = some (.held [40, 100, 101, 99, 97, 110, 105, 47, 118, 111, 105, 99, 101, 46, 118, 111, 116, 101, 115, 41, 46, 115, 111, 109, 101], x0.2) := by rw [← y0]; exact g0
   obtain rfl := func_of_trod (f0 := 105) Tryd.underlying111 (by kernel_rfl) f0
   have f1 : DataW.trod (funcToken zP) zP W 0 (fun _ => true) true m 111 [v1] = some (.held [40, 100, 101, 99, 97, 110, 105, 47, 118, 111, 105, 99, 101, 46, 118, 111, 116, 101, 115, 41, 46, 101, 97, 99, 104], x1.2) := by rw [← y1]; exact g1
   obtain rfl := func_of_trod (f0 := 106) Tryd.underlying111 (by kernel_rfl) f1
   exact (Bv.append (Bv.one1 rfl (.fn 105 #[] #[] [] [] rfl rfl (by simp) (by simp))) (Bv.one1 rfl (.fn 106 #[] #[] [] [] rfl rfl (by simp) (by simp))))
 have k0 := L9 OV hv r3
 clear hd hv r3
 have h' : laidMet zP [("decani/part.silence", Rows.laid_decani_part_silence), ("decani/part.nowhere", Rows.laid_decani_part_nowhere), ("decani/voice.unknown", Rows.laid_decani_voice_unknown), ("decani/voice.nobody", Rows.laid_decani_voice_nobody), ("decani/bench.nowhere", Rows.laid_decani_bench_nowhere)] W := And.left h
 obtain ⟨ps, ⟨a1, b1, cs1, f1, p1, q1, hg1, ht1, hv1, hd1, ⟨a2, b2, cs2, f2, p2, q2, hg2, ht2, hv2, hd2, ⟨a3, b3, cs3, f3, p3, q3, hg3, ht3, hv3, hd3, ⟨a4, b4, cs4, f4, p4, q4, hg4, ht4, hv4, hd4, ⟨a5, b5, cs5, f5, p5, q5, hg5, ht5, hv5, hd5, _, _⟩, _⟩, _⟩, _⟩, _⟩, _, _⟩ := h'
 obtain rfl := Option.some.inj (P5.symm.trans hg1)
 obtain rfl := Option.some.inj (Yb.symm.trans ht1)
 obtain rfl := Option.some.inj (QF.symm.trans hg2)
 obtain rfl := Option.some.inj (Y9.symm.trans ht2)
 obtain rfl := Option.some.inj (On.symm.trans hg3)
 obtain rfl := Option.some.inj (YC.symm.trans ht3)
 obtain rfl := Option.some.inj (QE.symm.trans hg4)
 obtain rfl := Option.some.inj (ZZ.symm.trans ht4)
 obtain rfl := Option.some.inj (Oz.symm.trans hg5)
 obtain rfl := Option.some.inj (XI.symm.trans ht5)
 have e1 := Lib.cells_of_tab (zs := [-1, -1, -1]) Tryd.underlying143 zi c3 (by kernel_rfl) hd1
 have e2 := UD Tryd.underlying138 rfl rfl rfl rfl (by kernel_rfl) hd2
 have e3 := Lib.cells_of_tab (zs := [-1, -1, -1, -1, -1]) Tryd.underlying153 zi c3 (by kernel_rfl) hd3
 have e4 := UD Tryd.underlying151 rfl rfl rfl rfl (by kernel_rfl) hd4
 have e5 := UD Tryd.underlying79 rfl rfl rfl rfl (by kernel_rfl) hd5
 have k4 := L9 P5 hv1 (xs := [-1, -1, -1].map .int) (by rw [e1]; exact Bv.ints _)
 have k1 := L9 QF hv2 (xs := [-1, -1].map .int) (by rw [e2]; exact Bv.ints _)
 have k5 := L9 On hv3 (xs := [-1, -1, -1, -1, -1].map .int) (by rw [e3]; exact Bv.ints _)
 have k3 := L9 QE hv4 (xs := [-1, -1].map .int) (by rw [e4]; exact Bv.ints _)
 have k2 := L9 Oz hv5 (xs := [-1, -1].map .int) (by rw [e5]; exact Bv.ints _)
 intro n
 match n with
 | 0 => exact k0
 | 1 => exact k1
 | 2 => exact k2
 | 3 => exact k3
 | 4 => exact k4
 | 5 => exact k5
 | 6 => exact k6
 | n + 7 => exact pQ _
end Go.Lf
