/- A part of the proof. -/
import Derived.Test.YtbkliocalcihjaaDoorx18
import Derived.Test.YtbkliocalcihjaaDoorx20
import Derived.Test.YtbkliocalcihjaaDoorx22
import Derived.Test.YtbkliocalcihjaaDoorx41
import Derived.LaidMore
import Derived.LaidHandle
import Derived.Test.YtbkliocalcihjaaDoorRows
set_option linter.all false
namespace Go.Lf
open Go Go.Proofs Go.Proofs.YtbkliocalcihjaaDoor
set_option maxRecDepth 100000
noncomputable abbrev zP : Program := Tryd.prog
theorem zi : zP.underlying 3 = some (.int .i64) := Tryd.underlying3
theorem c3 : zP.cellsOf 3 = 1 := by kernel_rfl
theorem c22 : zP.cellsOf 22 = 1 := by kernel_rfl
theorem c23 : zP.cellsOf 23 = 1 := by kernel_rfl
theorem c25 : zP.cellsOf 25 = 3 := by kernel_rfl
theorem c26 : zP.cellsOf 26 = 1 := by kernel_rfl
theorem c27 : zP.cellsOf 27 = 3 := by kernel_rfl
theorem c34 : zP.cellsOf 34 = 2 := by kernel_rfl
theorem c36 : zP.cellsOf 36 = 3 := by kernel_rfl
theorem c67 : zP.cellsOf 67 = 11 := by kernel_rfl
theorem c70 : zP.cellsOf 70 = 4 := by kernel_rfl
theorem b36 : zP.bytesOf 36 = 24 := by kernel_rfl
theorem zl : zP.bytesOf 67 = 88 := by kernel_rfl
theorem b70 : zP.bytesOf 70 = 32 := by kernel_rfl
theorem few {n : Nat} (h : n ≤ reachBytes) : n < 4611686018427387904 := Nat.lt_of_le_of_lt h (by decide)
theorem r3 : Rd zP 3 Int (fun _ => True) := Rd.int zi
theorem r34 : Rd zP 34 BJ (fun _ => True) := Yn BJ.mk Tryd.underlying34 r3 r3 c3 c3 rfl rfl c34 (fun _ _ => rfl) (fun _ _ _ _ => trivial)
theorem zr : Rd zP 67 AK (fun _ => True) := l5 AK.mk Tryd.underlying67 r34 r34 r34 r34 r3 r34 c34 c34 c34 c34 c3 c34 rfl rfl rfl rfl rfl rfl c67 (fun _ _ _ _ _ _ => rfl) (fun _ _ _ _ _ _ _ _ _ _ _ _ => trivial)
theorem r22 : Rd zP 22 (Sl AK) (fun s => s.l.length ≤ reachBytes ∧ ∀ y ∈ s.l, True) := Rd.slice Tryd.underlying22 c67 (by decide) (by rw [zl]; decide) zr
theorem zg : Rd zP 70 AI (fun _ => True) := mL AI.mk Tryd.underlying70 r3 r3 r3 r3 c3 c3 c3 c3 rfl rfl rfl rfl c70 (fun _ _ _ _ => rfl) (fun _ _ _ _ _ _ _ _ => trivial)
theorem r23 : Rd zP 23 (Sl AI) (fun s => s.l.length ≤ reachBytes ∧ ∀ y ∈ s.l, True) := Rd.slice Tryd.underlying23 c70 (by decide) (by rw [b70]; decide) zg
theorem r25 : Rd zP 25 VoiceBook Wz := mJ VoiceBook.mk Tryd.underlying25 r22 r3 r23 c22 c3 c23 rfl rfl rfl c25 (fun _ _ _ => rfl) (fun _ _ _ h1 _ h2 => ⟨few h1.1, few h2.1⟩)
theorem r36 : Rd zP 36 AC (fun _ => True) := Yn AC.mk Tryd.underlying36 r3 r34 c3 c34 rfl rfl c36 (fun _ _ => rfl) (fun _ _ _ _ => trivial)
theorem zo : Rd zP 26 (Sl AC) (fun s => s.l.length ≤ reachBytes ∧ ∀ y ∈ s.l, True) := Rd.slice Tryd.underlying26 c36 (by decide) (by rw [b36]; decide) r36
theorem zq : Rd zP 27 (Ar 3 Int) (fun s => ∀ y ∈ s.l, True) := Rd.array Tryd.underlying27 c3 c27 r3
theorem NB {t : TypeId} {f0 f1 : Field} (ht : zP.underlying t = some (.struct #[f0, f1])) (h0 : f0.type = 3) (h1 : f1.type = 3) (o0 : f0.offset = 0) (o1 : f1.offset = 1) (hc : zP.cellsOf t = 2)
  {H : Type} {enc : TypeId × Value → H} {W : World} {held : Bool} {sp : Nat → Bool} {fuel : Nat} {cs : List Value} {a b : Int} {p : List MemPlace} (h : DataW.trod enc zP W 0 sp held fuel t cs = some (.agg [.lit (.int .i64 a), .lit (.int .i64 b)], p)) :
  cs = [a, b].map fun z => Value.int .i64 z := by
 obtain ⟨xs, n, _, hx, hl, hxl, hget⟩ := DataW.trod_struct ht h
 simp only [List.size_toArray, List.length_cons, List.length_nil] at hxl
 have g0 := hget 0 f0 rfl
 have g1 := hget 1 f1 rfl
 rw [h0, o0, c3] at g0
 rw [h1, o1, c3] at g1
 match xs, hxl with
 | [x0, x1], _ =>
  obtain ⟨k0, e0, y0, _⟩ := DataW.trod_int zi g0
  obtain ⟨k1, e1, y1, _⟩ := DataW.trod_int zi g1
  simp only [Prod.mk.injEq, DataW.agg.injEq, List.map_cons, List.map_nil, List.cons.injEq, y0, y1, DataW.lit.injEq, Lit.int.injEq, true_and, and_true] at hx
  obtain ⟨⟨rfl, rfl⟩, _⟩ := hx
  rw [hc] at hl
  match cs, hl with
  | [v0, v1], _ =>
   simp at e0 e1
   rw [e0, e1]
   rfl
theorem LL : zP.globalNamed "decani/candle.nowhere" = some 5 := by kernel_rfl
theorem S4 : (zP.globals[5]?).map (·.type) = some 193 := by kernel_rfl
theorem Ly : zP.globalNamed "decani/voice.unknown" = some 3 := by kernel_rfl
theorem Wb : (zP.globals[3]?).map (·.type) = some 157 := by kernel_rfl
theorem Nl : zP.globalNamed "decani/voice.nobody" = some 0 := by kernel_rfl
theorem X7 : (zP.globals[0]?).map (·.type) = some 159 := by kernel_rfl
theorem L6 : zP.globalNamed "decani/voice.kindsOf" = some 7 := by kernel_rfl
theorem UL : (zP.globals[7]?).map (·.type) = some 205 := by kernel_rfl
theorem Lp : zP.globalNamed "decani/bench.nowhere" = some 4 := by kernel_rfl
theorem WR : (zP.globals[4]?).map (·.type) = some 120 := by kernel_rfl
theorem Lj : zP.globalNamed "decani/organ.unknown" = some 2 := by kernel_rfl
theorem WG : (zP.globals[2]?).map (·.type) = some 93 := by kernel_rfl
theorem Lx : zP.globalNamed "decani/organ.nowhere" = some 6 := by kernel_rfl
theorem V1 : (zP.globals[6]?).map (·.type) = some 136 := by kernel_rfl
theorem SH : zP.globalNamed "decani/organ.ends" = some 1 := by kernel_rfl
theorem dR : (zP.globals[1]?).map (·.type) = some 169 := by kernel_rfl
def nX : List (String × DataW Unit) := [("decani/candle.nowhere", Rows.laid_decani_candle_nowhere), ("decani/voice.unknown", Rows.laid_decani_voice_unknown), ("decani/voice.nobody", Rows.laid_decani_voice_nobody), ("decani/voice.kindsOf", Rows.laid_decani_voice_kindsOf), ("decani/bench.nowhere", Rows.laid_decani_bench_nowhere), ("decani/organ.unknown", Rows.laid_decani_organ_unknown), ("decani/organ.nowhere", Rows.laid_decani_organ_nowhere), ("decani/organ.ends", Rows.laid_decani_organ_ends)]
theorem mT {W : World} (h : laidMetH zP nX W) : ∀ n, Cd (CQ W).im (CQ W).fm (.pointer (some ⟨n, 0, none⟩)) (.fptr (zT.globs n) 0) := by
 obtain ⟨g, t, cs, fuel, p, hg, ht, hv, hd⟩ := h.funcs (n := "decani/voice.kindsOf") (d := .agg [.iface "func" (.lit (.string [40, 100, 101, 99, 97, 110, 105, 47, 118, 111, 105, 99, 101, 46, 118, 111, 116, 101, 115, 41, 46, 115, 111, 109, 101])), .iface "func" (.lit (.string [40, 100, 101, 99, 97, 110, 105, 47, 118, 111, 105, 99, 101, 46, 118, 111, 116, 101, 115, 41, 46, 101, 97, 99, 104]))]) (by simp [nX, Rows.laid_decani_voice_kindsOf])
 obtain rfl := Option.some.inj (L6.symm.trans hg)
 obtain rfl := Option.some.inj (UL.symm.trans ht)
 have r3 : BV W cs.toList [.fn 119 [] [], .fn 120 [] []] := by
  obtain ⟨xs, m, _, hx, hl, hxl, hget⟩ := DataW.trod_array Tryd.underlying205 hd
  have ce : zP.cellsOf 204 = 1 := by kernel_rfl
  have ct : zP.cellsOf 205 = 2 := by kernel_rfl
  rw [ct] at hl
  have g0 := hget 0 (by decide)
  have g1 := hget 1 (by decide)
  rw [ce] at g0 g1
  obtain ⟨vs⟩ := cs
  match xs, hxl, vs, hl with
  | [x0, x1], _, [v0, v1], _ =>
   have hx' : x0.1 = .held [40, 100, 101, 99, 97, 110, 105, 47, 118, 111, 105, 99, 101, 46, 118, 111, 116, 101, 115, 41, 46, 115, 111, 109, 101] ∧ x1.1 = .held [40, 100, 101, 99, 97, 110, 105, 47, 118, 111, 105, 99, 101, 46, 118, 111, 116, 101, 115, 41, 46, 101, 97, 99, 104] := by
    have := congrArg Prod.fst hx
    have := DataW.agg.inj (this.symm.trans (show _ = DataW.agg [.held [40, 100, 101, 99, 97, 110, 105, 47, 118, 111, 105, 99, 101, 46, 118, 111, 116, 101, 115, 41, 46, 115, 111, 109, 101], .held [40, 100, 101, 99, 97, 110, 105, 47, 118, 111, 105, 99, 101, 46, 118, 111, 116, 101, 115, 41, 46, 101, 97, 99, 104]] from rfl))
    simpa using this
   obtain ⟨y0, y1⟩ := hx'
   have f0 : DataW.trod (funcToken zP) zP W 0 (fun _ => true) true m 204 [v0] = some (.held [40, 100, 101, 99, 97, 110, 105, 47, 118, 111, 105, 99, 101, 46, 118, 111, 116, 101, 115, 41, 46, 115, 111, 109, 101], x0.2) := by rw [← y0]; exact g0
   obtain rfl := func_of_trod (f0 := 119) Tryd.underlying204 (by kernel_rfl) f0
   have f1 : DataW.trod (funcToken zP) zP W 0 (fun _ => true) true m 204 [v1] = some (.held [40, 100, 101, 99, 97, 110, 105, 47, 118, 111, 105, 99, 101, 46, 118, 111, 116, 101, 115, 41, 46, 101, 97, 99, 104], x1.2) := by rw [← y1]; exact g1
   obtain rfl := func_of_trod (f0 := 120) Tryd.underlying204 (by kernel_rfl) f1
   exact (BV.append (BV.one1 rfl (.fn 119 #[] #[] [] [] rfl rfl (by simp) (by simp))) (BV.one1 rfl (.fn 120 #[] #[] [] [] rfl rfl (by simp) (by simp))))
 have k7 := JK L6 hv r3
 clear hd hv r3
 obtain ⟨g, t, cs, fuel, p, hg, ht, hv, hd⟩ := h.funcs (n := "decani/organ.ends") (d := .agg [.iface "func" (.lit (.string [40, 100, 101, 99, 97, 110, 105, 47, 111, 114, 103, 97, 110, 46, 98, 111, 111, 107, 41, 46, 108, 111, 119])), .iface "func" (.lit (.string [40, 100, 101, 99, 97, 110, 105, 47, 111, 114, 103, 97, 110, 46, 98, 111, 111, 107, 41, 46, 104, 105, 103, 104]))]) (by simp [nX, Rows.laid_decani_organ_ends])
 obtain rfl := Option.some.inj (SH.symm.trans hg)
 obtain rfl := Option.some.inj (dR.symm.trans ht)
 have r3 : BV W cs.toList [.fn 117 [] [], .fn 118 [] []] := by
  obtain ⟨xs, m, _, hx, hl, hxl, hget⟩ := DataW.trod_array Tryd.underlying169 hd
  have ce : zP.cellsOf 168 = 1 := by kernel_rfl
  have ct : zP.cellsOf 169 = 2 := by kernel_rfl
  rw [ct] at hl
  have g0 := hget 0 (by decide)
  have g1 := hget 1 (by decide)
  rw [ce] at g0 g1
  obtain ⟨vs⟩ := cs
  match xs, hxl, vs, hl with
  | [x0, x1], _, [v0, v1], _ =>
   have hx' : x0.1 = .held [40, 100, 101, 99, 97, 110, 105, 47, 111, 114, 103, 97, 110, 46, 98, 111, 111, 107, 41, 46, 108, 111, 119] ∧ x1.1 = .held [40, 100, 101, 99, 97, 110, 105, 47, 111, 114, 103, 97, 110, 46, 98, 111, 111, 107, 41, 46, 104, 105, 103, 104] := by
    have := congrArg Prod.fst hx
    have := DataW.agg.inj (this.symm.trans (show _ = DataW.agg [.held [40, 100, 101, 99, 97, 110, 105, 47, 111, 114, 103, 97, 110, 46, 98, 111, 111, 107, 41, 46, 108, 111, 119], .held [40, 100, 101, 99, 97, 110, 105, 47, 111, 114, 103, 97, 110, 46, 98, 111, 111, 107, 41, 46, 104, 105, 103, 104]] from rfl))
    simpa using this
   obtain ⟨y0, y1⟩ := hx'
   have f0 : DataW.trod (funcToken zP) zP W 0 (fun _ => true) true m 168 [v0] = some (.held [40, 100, 101, 99, 97, 110, 105, 47, 111, 114, 103, 97, 110, 46, 98, 111, 111, 107, 41, 46, 108, 111, 119], x0.2) := by rw [← y0]; exact g0
   obtain rfl := func_of_trod (f0 := 117) Tryd.underlying168 (by kernel_rfl) f0
   have f1 : DataW.trod (funcToken zP) zP W 0 (fun _ => true) true m 168 [v1] = some (.held [40, 100, 101, 99, 97, 110, 105, 47, 111, 114, 103, 97, 110, 46, 98, 111, 111, 107, 41, 46, 104, 105, 103, 104], x1.2) := by rw [← y1]; exact g1
   obtain rfl := func_of_trod (f0 := 118) Tryd.underlying168 (by kernel_rfl) f1
   exact (BV.append (BV.one1 rfl (.fn 117 #[] #[] [] [] rfl rfl (by simp) (by simp))) (BV.one1 rfl (.fn 118 #[] #[] [] [] rfl rfl (by simp) (by simp))))
 have k1 := JK SH hv r3
 clear hd hv r3
 have h' : laidMet zP [("decani/candle.nowhere", Rows.laid_decani_candle_nowhere), ("decani/voice.unknown", Rows.laid_decani_voice_unknown), ("decani/voice.nobody", Rows.laid_decani_voice_nobody), ("decani/bench.nowhere", Rows.laid_decani_bench_nowhere), ("decani/organ.unknown", Rows.laid_decani_organ_unknown), ("decani/organ.nowhere", Rows.laid_decani_organ_nowhere)] W := And.left h
 obtain ⟨ps, ⟨a1, b1, cs1, f1, p1, q1, hg1, ht1, hv1, hd1, ⟨a2, b2, cs2, f2, p2, q2, hg2, ht2, hv2, hd2, ⟨a3, b3, cs3, f3, p3, q3, hg3, ht3, hv3, hd3, ⟨a4, b4, cs4, f4, p4, q4, hg4, ht4, hv4, hd4, ⟨a5, b5, cs5, f5, p5, q5, hg5, ht5, hv5, hd5, ⟨a6, b6, cs6, f6, p6, q6, hg6, ht6, hv6, hd6, _, _⟩, _⟩, _⟩, _⟩, _⟩, _⟩, _, _⟩ := h'
 obtain rfl := Option.some.inj (LL.symm.trans hg1)
 obtain rfl := Option.some.inj (S4.symm.trans ht1)
 obtain rfl := Option.some.inj (Ly.symm.trans hg2)
 obtain rfl := Option.some.inj (Wb.symm.trans ht2)
 obtain rfl := Option.some.inj (Nl.symm.trans hg3)
 obtain rfl := Option.some.inj (X7.symm.trans ht3)
 obtain rfl := Option.some.inj (Lp.symm.trans hg4)
 obtain rfl := Option.some.inj (WR.symm.trans ht4)
 obtain rfl := Option.some.inj (Lj.symm.trans hg5)
 obtain rfl := Option.some.inj (WG.symm.trans ht5)
 obtain rfl := Option.some.inj (Lx.symm.trans hg6)
 obtain rfl := Option.some.inj (V1.symm.trans ht6)
 have e1 := NB Tryd.underlying193 rfl rfl rfl rfl (by kernel_rfl) hd1
 have e2 := Lib.cells_of_tab (zs := [-1, -1, -1, -1, -1]) Tryd.underlying157 zi c3 (by kernel_rfl) hd2
 have e3 := NB Tryd.underlying159 rfl rfl rfl rfl (by kernel_rfl) hd3
 have e4 := NB Tryd.underlying120 rfl rfl rfl rfl (by kernel_rfl) hd4
 have e5 := Lib.cells_of_tab (zs := [1048576, 1048576, 1048576, 1048576, 1048576, 1048576]) Tryd.underlying93 zi c3 (by kernel_rfl) hd5
 have e6 := NB Tryd.underlying136 rfl rfl rfl rfl (by kernel_rfl) hd6
 have k5 := JK LL hv1 (xs := [-1, -1].map .int) (by rw [e1]; exact BV.ints _)
 have k3 := JK Ly hv2 (xs := [-1, -1, -1, -1, -1].map .int) (by rw [e2]; exact BV.ints _)
 have k0 := JK Nl hv3 (xs := [-1, -1].map .int) (by rw [e3]; exact BV.ints _)
 have k4 := JK Lp hv4 (xs := [-1, -1].map .int) (by rw [e4]; exact BV.ints _)
 have k2 := JK Lj hv5 (xs := [1048576, 1048576, 1048576, 1048576, 1048576, 1048576].map .int) (by rw [e5]; exact BV.ints _)
 have k6 := JK Lx hv6 (xs := [-1, -1].map .int) (by rw [e6]; exact BV.ints _)
 intro n
 match n with
 | 0 => exact k0
 | 1 => exact k1
 | 2 => exact k2
 | 3 => exact k3
 | 4 => exact k4
 | 5 => exact k5
 | 6 => exact k6
 | 7 => exact k7
 | n + 8 => exact my _
end Go.Lf
