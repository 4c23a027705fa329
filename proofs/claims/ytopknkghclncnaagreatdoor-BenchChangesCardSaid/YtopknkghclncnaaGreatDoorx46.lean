/- A part of the proof. -/
import Derived.Test.YtopknkghclncnaaGreatDoorx26
import Derived.Test.YtopknkghclncnaaGreatDoorx28
import Derived.Test.YtopknkghclncnaaGreatDoorx30
import Derived.Test.YtopknkghclncnaaGreatDoorx45
import Derived.LaidMore
import Derived.LaidHandle
import Derived.Test.YtopknkghclncnaaGreatDoorRows
set_option linter.all false
namespace Go.Lf
open Go Go.Proofs Go.Proofs.YtopknkghclncnaaGreatDoor
set_option maxRecDepth 100000
noncomputable abbrev zP : Program := Tryz.prog
theorem zi : zP.underlying 3 = some (.int .i64) := Tryz.underlying3
theorem c3 : zP.cellsOf 3 = 1 := by kernel_rfl
theorem c69 : zP.cellsOf 69 = 2 := by kernel_rfl
theorem ABZ : zP.cellsOf 105 = 11 := by kernel_rfl
theorem ABY : zP.cellsOf 108 = 4 := by kernel_rfl
theorem c22 : zP.cellsOf 22 = 1 := by kernel_rfl
theorem c23 : zP.cellsOf 23 = 1 := by kernel_rfl
theorem c25 : zP.cellsOf 25 = 3 := by kernel_rfl
theorem c26 : zP.cellsOf 26 = 1 := by kernel_rfl
theorem c28 : zP.cellsOf 28 = 5 := by kernel_rfl
theorem c29 : zP.cellsOf 29 = 2 := by kernel_rfl
theorem c57 : zP.cellsOf 57 = 1 := by kernel_rfl
theorem c59 : zP.cellsOf 59 = 2 := by kernel_rfl
theorem c71 : zP.cellsOf 71 = 3 := by kernel_rfl
theorem c82 : zP.cellsOf 82 = 3 := by kernel_rfl
theorem ABk : zP.bytesOf 105 = 88 := by kernel_rfl
theorem ABj : zP.bytesOf 108 = 32 := by kernel_rfl
theorem b71 : zP.bytesOf 71 = 24 := by kernel_rfl
theorem b59 : zP.bytesOf 59 = 32 := by kernel_rfl
theorem b82 : zP.bytesOf 82 = 24 := by kernel_rfl
theorem lu : Rd zP 3 Int (fun _ => True) := Rd.int zi
theorem rq : Rd zP 69 Fo (fun _ => True) := Ua Fo.mk Tryz.underlying69 lu lu c3 c3 rfl rfl c69 (fun _ _ => rfl) (fun _ _ _ _ => trivial)
theorem ABb : Rd zP 105 AO (fun _ => True) := sB AO.mk Tryz.underlying105 rq rq rq rq lu rq c69 c69 c69 c69 c3 c69 rfl rfl rfl rfl rfl rfl ABZ (fun _ _ _ _ _ _ => rfl) (fun _ _ _ _ _ _ _ _ _ _ _ _ => trivial)
theorem zk : Rd zP 108 AN (fun _ => True) := qd AN.mk Tryz.underlying108 lu lu lu lu c3 c3 c3 c3 rfl rfl rfl rfl ABY (fun _ _ _ _ => rfl) (fun _ _ _ _ _ _ _ _ => trivial)
theorem few {n : Nat} (h : n ≤ reachBytes) : n < 4611686018427387904 := Nat.lt_of_le_of_lt h (by decide)
theorem AAL : Rd zP 25 VoiceBook qu := Uc VoiceBook.mk Tryz.underlying25 (Rd.slice Tryz.underlying22 ABZ (by decide) (by rw [ABk]; decide) ABb) lu (Rd.slice Tryz.underlying23 ABY (by decide) (by rw [ABj]; decide) zk) c22 c3 c23 rfl rfl rfl c25 (fun _ _ _ => rfl) (fun _ _ _ h1 _ h2 => ⟨few h1.1, few h2.1⟩)
theorem AA2 : Rd zP 71 Ax (fun _ => True) := Ua Ax.mk Tryz.underlying71 rq lu c69 c3 rfl rfl c71 (fun _ _ => rfl) (fun _ _ _ _ => trivial)
theorem zz : Rd zP 59 AM (fun x => x.Parts.l.length < 4611686018427387904) := Ua AM.mk Tryz.underlying59 lu (Rd.slice Tryz.underlying57 c71 (by decide) (by rw [b71]; decide) AA2) c3 c57 rfl rfl c59 (fun _ _ => rfl) (fun _ _ _ h => few h.1)
theorem zD : Rd zP 28 BenchBook Wi := Uc BenchBook.mk Tryz.underlying28 AAL (Rd.slice Tryz.underlying26 c59 (by decide) (by rw [b59]; decide) zz) lu c25 c26 c3 rfl rfl rfl c28 (fun _ _ _ => rfl) (fun _ _ _ h1 h2 _ => ⟨h1, few h2.1, h2.2⟩)
theorem AA4 : Rd zP 82 AA (fun _ => True) := Uc AA.mk Tryz.underlying82 lu lu lu c3 c3 c3 rfl rfl rfl c82 (fun _ _ _ => rfl) (fun _ _ _ _ _ _ => trivial)
theorem zq : Rd zP 30 (Sl AA) (fun s => s.l.length ≤ reachBytes ∧ ∀ y ∈ s.l, True) := Rd.slice Tryz.underlying30 c82 (by decide) (by rw [b82]; decide) AA4
theorem AA3 : Rd zP 29 (Ar 2 Int) (fun s => ∀ y ∈ s.l, True) := Rd.array Tryz.underlying29 c3 c29 lu
theorem ck {t : TypeId} {f0 f1 : Field} (ht : zP.underlying t = some (.struct #[f0, f1])) (h0 : f0.type = 3) (h1 : f1.type = 3) (o0 : f0.offset = 0) (o1 : f1.offset = 1) (hc : zP.cellsOf t = 2)
  {H : Type} {enc : TypeId × Value → H} {W : World} {held : Bool} {sp : Nat → Bool} {fuel : Nat} {cs : List Value} {a b : Int} {p : List MemPlace} (h : DataW.trod enc zP W 0 sp held fuel t cs = some (.agg [.lit (.int .i64 a), .lit (.int .i64 b)], p)) :
  cs = [a, b].map fun z => Value.int .i64 z := by
 obtain ⟨xs, n, _, hx, hl, hxl, hget⟩ := DataW.trod_struct ht h
 simp only [List.size_toArray, List.length_cons, List.length_nil] at hxl
 have g0 := hget 0 f0 rfl
 have g1 := hget 1 f1 rfl
 rw [h0, o0, c3] at g0
 rw [h1, o1, c3] at g1
 match xs, hxl with
 | [x0, x1], _ =>
  obtain ⟨k0, e0, y0, _⟩ := DataW.trod_int zi g0
  obtain ⟨k1, e1, y1, _⟩ := DataW.trod_int zi g1
  simp only [Prod.mk.injEq, DataW.agg.injEq, List.map_cons, List.map_nil, List.cons.injEq, y0, y1, DataW.lit.injEq, Lit.int.injEq, true_and, and_true] at hx
  obtain ⟨⟨rfl, rfl⟩, _⟩ := hx
  rw [hc] at hl
  match cs, hl with
  | [v0, v1], _ =>
   simp at e0 e1
   rw [e0, e1]
   rfl
theorem kW : zP.globalNamed "decani/voice.unknown" = some 2 := by kernel_rfl
theorem pL : zP.globalNamed "decani/voice.nobody" = some 1 := by kernel_rfl
theorem jN : zP.globalNamed "decani/bench.nowhere" = some 0 := by kernel_rfl
theorem iY : zP.globalNamed "decani/voice.kindsOf" = some 3 := by kernel_rfl
theorem te : (zP.globals[2]?).map (·.type) = some 140 := by kernel_rfl
theorem vR : (zP.globals[1]?).map (·.type) = some 142 := by kernel_rfl
theorem tC : (zP.globals[0]?).map (·.type) = some 61 := by kernel_rfl
theorem uW : (zP.globals[3]?).map (·.type) = some 168 := by kernel_rfl
def sO : List (String × DataW Unit) := [("decani/voice.unknown", Rows.laid_decani_voice_unknown), ("decani/voice.nobody", Rows.laid_decani_voice_nobody), ("decani/voice.kindsOf", Rows.laid_decani_voice_kindsOf), ("decani/bench.nowhere", Rows.laid_decani_bench_nowhere)]
theorem cg {W : World} (h : laidMetH zP sO W) : ∀ n, DU (DX W).im (DX W).fm (.pointer (some ⟨n, 0, none⟩)) (.fptr (zT.globs n) 0) := by
 obtain ⟨g, t, cs, fuel, p, hg, ht, hv, hd⟩ := h.funcs (n := "decani/voice.kindsOf") (d := .agg [.iface "func" (.lit (.string [40, 100, 101, 99, 97, 110, 105, 47, 118, 111, 105, 99, 101, 46, 118, 111, 116, 101, 115, 41, 46, 115, 111, 109, 101])), .iface "func" (.lit (.string [40, 100, 101, 99, 97, 110, 105, 47, 118, 111, 105, 99, 101, 46, 118, 111, 116, 101, 115, 41, 46, 101, 97, 99, 104]))]) (by simp [sO, Rows.laid_decani_voice_kindsOf])
 obtain rfl := Option.some.inj (iY.symm.trans hg)
 obtain rfl := Option.some.inj (uW.symm.trans ht)
 have r3 : CO W cs.toList [.fn 136 [] [], .fn 137 [] []] := by
  obtain ⟨xs, m, _, hx, hl, hxl, hget⟩ := DataW.trod_array Tryz.underlying168 hd
  have c167 : zP.cellsOf 167 = 1 := by kernel_rfl
  have c168 : zP.cellsOf 168 = 2 := by kernel_rfl
  rw [c168] at hl
  have g0 := hget 0 (by decide)
  have g1 := hget 1 (by decide)
  rw [c167] at g0 g1
  obtain ⟨vs⟩ := cs
  match xs, hxl, vs, hl with
  | [x0, x1], _, [v0, v1], _ =>
   have hx' : x0.1 = .held [40, 100, 101, 99, 97, 110, 105, 47, 118, 111, 105, 99, 101, 46, 118, 111, 116, 101, 115, 41, 46, 115, 111, 109, 101] ∧ x1.1 = .held [40, 100, 101, 99, 97, 110, 105, 47, 118, 111, 105, 99, 101, 46, 118, 111, 116, 101, 115, 41, 46, 101, 97, 99, 104] := by
    have := congrArg Prod.fst hx
    have := DataW.agg.inj (this.symm.trans (show _ = DataW.agg [.held [40, 100, 101, 99, 97, 110, 105, 47, 118, 111, 105, 99, 101, 46, 118, 111, 116, 101, 115, 41, 46, 115, 111, 109, 101], .held [40, 100, 101, 99, 97, 110, 105, 47, 118, 111, 105, 99, 101, 46, 118, 111, 116, 101, 115, 41, 46, 101, 97, 99, 104]] from rfl))
    simpa using this
   have g0' : DataW.trod (funcToken zP) zP W 0 (fun _ => true) true m 167 [v0] = some (.held [40, 100, 101, 99, 97, 110, 105, 47, 118, 111, 105, 99, 101, 46, 118, 111, 116, 101, 115, 41, 46, 115, 111, 109, 101], x0.2) := by rw [← hx'.1]; exact g0
   have g1' : DataW.trod (funcToken zP) zP W 0 (fun _ => true) true m 167 [v1] = some (.held [40, 100, 101, 99, 97, 110, 105, 47, 118, 111, 105, 99, 101, 46, 118, 111, 116, 101, 115, 41, 46, 101, 97, 99, 104], x1.2) := by rw [← hx'.2]; exact g1
   obtain rfl := func_of_trod (f0 := 136) Tryz.underlying167 (by kernel_rfl) g0'
   obtain rfl := func_of_trod (f0 := 137) Tryz.underlying167 (by kernel_rfl) g1'
   exact (CO.one1 rfl (.fn 136 #[] #[] [] [] rfl rfl (by simp) (by simp))).append (.one1 rfl (.fn 137 #[] #[] [] [] rfl rfl (by simp) (by simp)))
 have k3 := WV iY hv r3
 clear hd hv r3
 have h' : laidMet zP [("decani/voice.unknown", Rows.laid_decani_voice_unknown), ("decani/voice.nobody", Rows.laid_decani_voice_nobody), ("decani/bench.nowhere", Rows.laid_decani_bench_nowhere)] W := And.left h
 obtain ⟨ps, ⟨a1, b1, cs1, f1, p1, q1, hg1, ht1, hv1, hd1, ⟨a2, b2, cs2, f2, p2, q2, hg2, ht2, hv2, hd2, ⟨a3, b3, cs3, f3, p3, q3, hg3, ht3, hv3, hd3, _, _⟩, _⟩, _⟩, _, _⟩ := h'
 obtain rfl := Option.some.inj (kW.symm.trans hg1)
 obtain rfl := Option.some.inj (te.symm.trans ht1)
 obtain rfl := Option.some.inj (pL.symm.trans hg2)
 obtain rfl := Option.some.inj (vR.symm.trans ht2)
 obtain rfl := Option.some.inj (jN.symm.trans hg3)
 obtain rfl := Option.some.inj (tC.symm.trans ht3)
 have e1 := Lib.cells_of_tab (zs := [-1, -1, -1, -1, -1]) Tryz.underlying140 zi c3 (by kernel_rfl) hd1
 have e2 := ck Tryz.underlying142 rfl rfl rfl rfl (by kernel_rfl) hd2
 have e3 := ck Tryz.underlying61 rfl rfl rfl rfl (by kernel_rfl) hd3
 have k2 := WV kW hv1 (xs := [-1, -1, -1, -1, -1].map .int) (by rw [e1]; exact CO.ints _)
 have k1 := WV pL hv2 (xs := [-1, -1].map .int) (by rw [e2]; exact CO.ints _)
 have k0 := WV jN hv3 (xs := [-1, -1].map .int) (by rw [e3]; exact CO.ints _)
 intro n
 match n with
 | 0 => exact k0
 | 1 => exact k1
 | 2 => exact k2
 | 3 => exact k3
 | n + 4 => exact sq _
end Go.Lf
