/- A part of the proof. -/
import Derived.Test.YtdjddljglkeefaaDoorx18
import Derived.Test.YtdjddljglkeefaaDoorx20
import Derived.Test.YtdjddljglkeefaaDoorx22
import Derived.Test.YtdjddljglkeefaaDoorx45
import Derived.LaidMore
import Derived.LaidHandle
import Derived.Test.YtdjddljglkeefaaDoorRows
set_option linter.all false
namespace Go.Lf
open Go Go.Proofs Go.Proofs.YtdjddljglkeefaaDoor
set_option maxRecDepth 100000
noncomputable abbrev zP : Program := Tryd.prog
theorem zi : zP.underlying 3 = some (.int .i64) := Tryd.underlying3
theorem c3 : zP.cellsOf 3 = 1 := by kernel_rfl
theorem c22 : zP.cellsOf 22 = 1 := by kernel_rfl
theorem c23 : zP.cellsOf 23 = 1 := by kernel_rfl
theorem zn : zP.cellsOf 25 = 3 := by kernel_rfl
theorem zo : zP.cellsOf 26 = 1 := by kernel_rfl
theorem zb : zP.cellsOf 28 = 5 := by kernel_rfl
theorem zJ : zP.cellsOf 29 = 1 := by kernel_rfl
theorem zj : zP.cellsOf 32 = 1 := by kernel_rfl
theorem zh : zP.cellsOf 49 = 3 := by kernel_rfl
theorem c51 : zP.cellsOf 51 = 1 := by kernel_rfl
theorem zQ : zP.cellsOf 53 = 2 := by kernel_rfl
theorem c55 : zP.cellsOf 55 = 2 := by kernel_rfl
theorem c57 : zP.cellsOf 57 = 11 := by kernel_rfl
theorem zX : zP.cellsOf 59 = 3 := by kernel_rfl
theorem yV : zP.cellsOf 109 = 4 := by kernel_rfl
theorem b3 : zP.bytesOf 3 = 8 := by kernel_rfl
theorem b49 : zP.bytesOf 49 = 24 := by kernel_rfl
theorem zK : zP.bytesOf 53 = 32 := by kernel_rfl
theorem zW : zP.bytesOf 57 = 88 := by kernel_rfl
theorem zf : zP.bytesOf 59 = 24 := by kernel_rfl
theorem y2 : zP.bytesOf 109 = 32 := by kernel_rfl
theorem few {n : Nat} (h : n ≤ reachBytes) : n < 4611686018427387904 := Nat.lt_of_le_of_lt h (by decide)
theorem r3 : Rd zP 3 Int (fun _ => True) := Rd.int zi
theorem zg : Rd zP 55 Ew (fun _ => True) := Ss Ew.mk Tryd.underlying55 r3 r3 c3 c3 rfl rfl c55 (fun _ _ => rfl) (fun _ _ _ _ => trivial)
theorem r57 : Rd zP 57 AO (fun _ => True) := nb AO.mk Tryd.underlying57 zg zg zg zg r3 zg c55 c55 c55 c55 c3 c55 rfl rfl rfl rfl rfl rfl c57 (fun _ _ _ _ _ _ => rfl) (fun _ _ _ _ _ _ _ _ _ _ _ _ => trivial)
theorem r22 : Rd zP 22 (Sl AO) (fun s => s.l.length ≤ reachBytes ∧ ∀ y ∈ s.l, True) := Rd.slice Tryd.underlying22 c57 (by decide) (by rw [zW]; decide) r57
theorem y3 : Rd zP 109 AM (fun _ => True) := nO AM.mk Tryd.underlying109 r3 r3 r3 r3 c3 c3 c3 c3 rfl rfl rfl rfl yV (fun _ _ _ _ => rfl) (fun _ _ _ _ _ _ _ _ => trivial)
theorem zt : Rd zP 23 (Sl AM) (fun s => s.l.length ≤ reachBytes ∧ ∀ y ∈ s.l, True) := Rd.slice Tryd.underlying23 yV (by decide) (by rw [y2]; decide) y3
theorem r25 : Rd zP 25 VoiceBook tL := TG VoiceBook.mk Tryd.underlying25 r22 r3 zt c22 c3 c23 rfl rfl rfl zn (fun _ _ _ => rfl) (fun _ _ _ h1 _ h2 => ⟨few h1.1, few h2.1⟩)
theorem r59 : Rd zP 59 Aj (fun _ => True) := Ss Aj.mk Tryd.underlying59 zg r3 c55 c3 rfl rfl zX (fun _ _ => rfl) (fun _ _ _ _ => trivial)
theorem zE : Rd zP 51 (Sl Aj) (fun s => s.l.length ≤ reachBytes ∧ ∀ y ∈ s.l, True) := Rd.slice Tryd.underlying51 zX (by decide) (by rw [zf]; decide) r59
theorem zm : Rd zP 53 AE (fun x => x.Parts.l.length < 4611686018427387904) := Ss AE.mk Tryd.underlying53 r3 zE c3 c51 rfl rfl zQ (fun _ _ => rfl) (fun _ _ _ h => few h.1)
theorem r26 : Rd zP 26 (Sl AE) (fun s => s.l.length ≤ reachBytes ∧ ∀ y ∈ s.l, y.Parts.l.length < 4611686018427387904) := Rd.slice Tryd.underlying26 zQ (by decide) (by rw [zK]; decide) zm
theorem zw : Rd zP 28 BenchBook Tf := TG BenchBook.mk Tryd.underlying28 r25 r26 r3 zn zo c3 rfl rfl rfl zb (fun _ _ _ => rfl) (fun _ _ _ h1 h2 _ => ⟨h1, few h2.1, h2.2⟩)
theorem r49 : Rd zP 49 AB (fun _ => True) := TG AB.mk Tryd.underlying49 r3 r3 r3 c3 c3 c3 rfl rfl rfl zh (fun _ _ _ => rfl) (fun _ _ _ _ _ _ => trivial)
theorem r29 : Rd zP 29 (Sl AB) (fun s => s.l.length ≤ reachBytes ∧ ∀ y ∈ s.l, True) := Rd.slice Tryd.underlying29 zh (by decide) (by rw [b49]; decide) r49
theorem r32 : Rd zP 32 (Sl Int) (fun s => s.l.length ≤ reachBytes ∧ ∀ y ∈ s.l, True) := Rd.slice Tryd.underlying32 c3 (by decide) (by rw [b3]; decide) r3
theorem aZ {t : TypeId} {f0 f1 : Field} (ht : zP.underlying t = some (.struct #[f0, f1])) (h0 : f0.type = 3) (h1 : f1.type = 3) (o0 : f0.offset = 0) (o1 : f1.offset = 1) (hc : zP.cellsOf t = 2)
  {H : Type} {enc : TypeId × Value → H} {W : World} {held : Bool} {sp : Nat → Bool} {fuel : Nat} {cs : List Value} {a b : Int} {p : List MemPlace} (h : DataW.trod enc zP W 0 sp held fuel t cs = some (.agg [.lit (.int .i64 a), .lit (.int .i64 b)], p)) :
  cs = [a, b].map fun z => Value.int .i64 z := by
 obtain ⟨xs, n, _, hx, hl, hxl, hget⟩ := DataW.trod_struct ht h
 simp only [List.size_toArray, List.length_cons, List.length_nil] at hxl
 have g0 := hget 0 f0 rfl
 have g1 := hget 1 f1 rfl
 rw [h0, o0, c3] at g0
 rw [h1, o1, c3] at g1
 match xs, hxl with
 | [x0, x1], _ =>
  obtain ⟨k0, e0, y0, _⟩ := DataW.trod_int zi g0
  obtain ⟨k1, e1, y1, _⟩ := DataW.trod_int zi g1
  simp only [Prod.mk.injEq, DataW.agg.injEq, List.map_cons, List.map_nil, List.cons.injEq, y0, y1, DataW.lit.injEq, Lit.int.injEq, true_and, and_true] at hx
  obtain ⟨⟨rfl, rfl⟩, _⟩ := hx
  rw [hc] at hl
  match cs, hl with
  | [v0, v1], _ =>
   simp at e0 e1
   rw [e0, e1]
   rfl
theorem N7 : zP.globalNamed "decani/voice.unknown" = some 2 := by kernel_rfl
theorem Xj : (zP.globals[2]?).map (·.type) = some 131 := by kernel_rfl
theorem PT : zP.globalNamed "decani/voice.nobody" = some 0 := by kernel_rfl
theorem Yr : (zP.globals[0]?).map (·.type) = some 133 := by kernel_rfl
theorem Ny : zP.globalNamed "decani/voice.kindsOf" = some 3 := by kernel_rfl
theorem V0 : (zP.globals[3]?).map (·.type) = some 160 := by kernel_rfl
theorem Oj : zP.globalNamed "decani/bench.nowhere" = some 1 := by kernel_rfl
theorem WB : (zP.globals[1]?).map (·.type) = some 97 := by kernel_rfl
def jV : List (String × DataW Unit) := [("decani/voice.unknown", Rows.laid_decani_voice_unknown), ("decani/voice.nobody", Rows.laid_decani_voice_nobody), ("decani/voice.kindsOf", Rows.laid_decani_voice_kindsOf), ("decani/bench.nowhere", Rows.laid_decani_bench_nowhere)]
theorem PI {W : World} (h : laidMetH zP jV W) : ∀ n, DC (C0 W).im (C0 W).fm (.pointer (some ⟨n, 0, none⟩)) (.fptr (zT.globs n) 0) := by
 obtain ⟨g, t, cs, fuel, p, hg, ht, hv, hd⟩ := h.funcs (n := "decani/voice.kindsOf") (d := .agg [.iface "func" (.lit (.string [40, 100, 101, 99, 97, 110, 105, 47, 118, 111, 105, 99, 101, 46, 118, 111, 116, 101, 115, 41, 46, 115, 111, 109, 101])), .iface "func" (.lit (.string [40, 100, 101, 99, 97, 110, 105, 47, 118, 111, 105, 99, 101, 46, 118, 111, 116, 101, 115, 41, 46, 101, 97, 99, 104]))]) (by simp [jV, Rows.laid_decani_voice_kindsOf])
 obtain rfl := Option.some.inj (Ny.symm.trans hg)
 obtain rfl := Option.some.inj (V0.symm.trans ht)
 have r3 : Bv W cs.toList [.fn 113 [] [], .fn 114 [] []] := by
  obtain ⟨xs, m, _, hx, hl, hxl, hget⟩ := DataW.trod_array Tryd.underlying160 hd
  have ce : zP.cellsOf 159 = 1 := by kernel_rfl
  have ct : zP.cellsOf 160 = 2 := by kernel_rfl
  rw [ct] at hl
  have g0 := hget 0 (by decide)
  have g1 := hget 1 (by decide)
  rw [ce] at g0 g1
  obtain ⟨vs⟩ := cs
  match xs, hxl, vs, hl with
  | [x0, x1], _, [v0, v1], _ =>
   have hx' : x0.1 = .held [40, 100, 101, 99, 97, 110, 105, 47, 118, 111, 105, 99, 101, 46, 118, 111, 116, 101, 115, 41, 46, 115, 111, 109, 101] ∧ x1.1 = .held [40, 100, 101, 99, 97, 110, 105, 47, 118, 111, 105, 99, 101, 46, 118, 111, 116, 101, 115, 41, 46, 101, 97, 99, 104] := by
    have := congrArg Prod.fst hx
    have := DataW.agg.inj (this.symm.trans (show _ = DataW.agg [.held [40, 100, 101, 99, 97, 110, 105, 47, 118, 111, 105, 99, 101, 46, 118, 111, 116, 101, 115, 41, 46, 115, 111, 109, 101], .held [40, 100, 101, 99, 97, 110, 105, 47, 118, 111, 105, 99, 101, 46, 118, 111, 116, 101, 115, 41, 46, 101, 97, 99, 104]] from rfl))
    simpa using this
   obtain ⟨y0, y1⟩ := hx'
   have f0 : DataW.trod (funcToken zP) zP W 0 (fun _ => true) true m 159 [v0] = some (.held [40, 100, 101, 99, 97, 110, 105, 47, 118, 111, 105, 99, 101, 46, 118, 111, 116, 101, 115, 41, 46, 115, 111, 109, 101], x0.2) := by rw [← y0]; exact g0
   obtain rfl := func_of_trod (f0 := 113) Tryd.underlying159 (by kernel_rfl) f0
   have f1 : DataW.trod (funcToken zP) zP W 0 (fun _ => true) true m 159 [v1] = some (.held [40, 100, 101, 99, 97, 110, 105, 47, 118, 111, 105, 99, 101, 46, 118, 111, 116, 101, 115, 41, 46, 101, 97, 99, 104], x1.2) := by rw [← y1]; exact g1
   obtain rfl := func_of_trod (f0 := 114) Tryd.underlying159 (by kernel_rfl) f1
   exact (Bv.append (Bv.one1 rfl (.fn 113 #[] #[] [] [] rfl rfl (by simp) (by simp))) (Bv.one1 rfl (.fn 114 #[] #[] [] [] rfl rfl (by simp) (by simp))))
 have k3 := VV Ny hv r3
 clear hd hv r3
 have h' : laidMet zP [("decani/voice.unknown", Rows.laid_decani_voice_unknown), ("decani/voice.nobody", Rows.laid_decani_voice_nobody), ("decani/bench.nowhere", Rows.laid_decani_bench_nowhere)] W := And.left h
 obtain ⟨ps, ⟨a1, b1, cs1, f1, p1, q1, hg1, ht1, hv1, hd1, ⟨a2, b2, cs2, f2, p2, q2, hg2, ht2, hv2, hd2, ⟨a3, b3, cs3, f3, p3, q3, hg3, ht3, hv3, hd3, _, _⟩, _⟩, _⟩, _, _⟩ := h'
 obtain rfl := Option.some.inj (N7.symm.trans hg1)
 obtain rfl := Option.some.inj (Xj.symm.trans ht1)
 obtain rfl := Option.some.inj (PT.symm.trans hg2)
 obtain rfl := Option.some.inj (Yr.symm.trans ht2)
 obtain rfl := Option.some.inj (Oj.symm.trans hg3)
 obtain rfl := Option.some.inj (WB.symm.trans ht3)
 have e1 := Lib.cells_of_tab (zs := [-1, -1, -1, -1, -1]) Tryd.underlying131 zi c3 (by kernel_rfl) hd1
 have e2 := aZ Tryd.underlying133 rfl rfl rfl rfl (by kernel_rfl) hd2
 have e3 := aZ Tryd.underlying97 rfl rfl rfl rfl (by kernel_rfl) hd3
 have k2 := VV N7 hv1 (xs := [-1, -1, -1, -1, -1].map .int) (by rw [e1]; exact Bv.ints _)
 have k0 := VV PT hv2 (xs := [-1, -1].map .int) (by rw [e2]; exact Bv.ints _)
 have k1 := VV Oj hv3 (xs := [-1, -1].map .int) (by rw [e3]; exact Bv.ints _)
 intro n
 match n with
 | 0 => exact k0
 | 1 => exact k1
 | 2 => exact k2
 | 3 => exact k3
 | n + 4 => exact rP _
end Go.Lf
