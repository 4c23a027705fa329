/- A part of the proof. -/
import Derived.Test.YtpkbckdhkaggbaaDoorx25
import Derived.Test.YtpkbckdhkaggbaaDoorx27
import Derived.Test.YtpkbckdhkaggbaaDoorx29
import Derived.Test.YtpkbckdhkaggbaaDoorx44
import Derived.Test.YtpkbckdhkaggbaaDoorx46
import Derived.LaidMore
import Derived.LaidHandle
import Derived.Test.YtpkbckdhkaggbaaDoorRows
set_option linter.all false
namespace Go.Lf
open Go Go.Proofs Go.Proofs.YtpkbckdhkaggbaaDoor
set_option maxRecDepth 100000
noncomputable abbrev zP : Program := Tryd.prog
theorem zi : zP.underlying 3 = some (.int .i64) := Tryd.underlying3
theorem c3 : zP.cellsOf 3 = 1 := by kernel_rfl
theorem vH : zP.cellsOf 22 = 1 := by kernel_rfl
theorem uP : zP.cellsOf 23 = 1 := by kernel_rfl
theorem u7 : zP.cellsOf 25 = 3 := by kernel_rfl
theorem ui : zP.cellsOf 26 = 1 := by kernel_rfl
theorem t8 : zP.cellsOf 28 = 5 := by kernel_rfl
theorem u6 : zP.cellsOf 29 = 3 := by kernel_rfl
theorem uR : zP.cellsOf 33 = 1 := by kernel_rfl
theorem ua : zP.cellsOf 35 = 2 := by kernel_rfl
theorem uG : zP.cellsOf 37 = 2 := by kernel_rfl
theorem uj : zP.cellsOf 39 = 3 := by kernel_rfl
theorem uH : zP.cellsOf 57 = 4 := by kernel_rfl
theorem uf : zP.cellsOf 58 = 2 := by kernel_rfl
theorem tC : zP.cellsOf 103 = 11 := by kernel_rfl
theorem um : zP.bytesOf 35 = 32 := by kernel_rfl
theorem ub : zP.bytesOf 39 = 24 := by kernel_rfl
theorem ug : zP.bytesOf 57 = 32 := by kernel_rfl
theorem tn : zP.bytesOf 103 = 88 := by kernel_rfl
theorem few {n : Nat} (h : n ≤ reachBytes) : n < 4611686018427387904 := Nat.lt_of_le_of_lt h (by decide)
theorem r3 : Rd zP 3 Int (fun _ => True) := Rd.int zi
theorem uB : Rd zP 37 Ec (fun _ => True) := Q3 Ec.mk Tryd.underlying37 r3 r3 c3 c3 rfl rfl uG (fun _ _ => rfl) (fun _ _ _ _ => trivial)
theorem tV : Rd zP 103 AN (fun _ => True) := jr AN.mk Tryd.underlying103 uB uB uB uB r3 uB uG uG uG uG c3 uG rfl rfl rfl rfl rfl rfl tC (fun _ _ _ _ _ _ => rfl) (fun _ _ _ _ _ _ _ _ _ _ _ _ => trivial)
theorem vB : Rd zP 22 (Sl AN) (fun s => s.l.length ≤ reachBytes ∧ ∀ y ∈ s.l, True) := Rd.slice Tryd.underlying22 tC (by decide) (by rw [tn]; decide) tV
theorem vC : Rd zP 57 AE (fun _ => True) := jT AE.mk Tryd.underlying57 r3 r3 r3 r3 c3 c3 c3 c3 rfl rfl rfl rfl uH (fun _ _ _ _ => rfl) (fun _ _ _ _ _ _ _ _ => trivial)
theorem uV : Rd zP 23 (Sl AE) (fun s => s.l.length ≤ reachBytes ∧ ∀ y ∈ s.l, True) := Rd.slice Tryd.underlying23 uH (by decide) (by rw [ug]; decide) vC
theorem uA : Rd zP 25 VoiceBook lX := Xh VoiceBook.mk Tryd.underlying25 vB r3 uV vH c3 uP rfl rfl rfl u7 (fun _ _ _ => rfl) (fun _ _ _ h1 _ h2 => ⟨few h1.1, few h2.1⟩)
theorem vA : Rd zP 39 Ao (fun _ => True) := Q3 Ao.mk Tryd.underlying39 uB r3 uG c3 rfl rfl uj (fun _ _ => rfl) (fun _ _ _ _ => trivial)
theorem vJ : Rd zP 33 (Sl Ao) (fun s => s.l.length ≤ reachBytes ∧ ∀ y ∈ s.l, True) := Rd.slice Tryd.underlying33 uj (by decide) (by rw [ub]; decide) vA
theorem t7 : Rd zP 35 AK (fun x => x.Parts.l.length < 4611686018427387904) := Q3 AK.mk Tryd.underlying35 r3 vJ c3 uR rfl rfl ua (fun _ _ => rfl) (fun _ _ _ h => few h.1)
theorem u9 : Rd zP 26 (Sl AK) (fun s => s.l.length ≤ reachBytes ∧ ∀ y ∈ s.l, y.Parts.l.length < 4611686018427387904) := Rd.slice Tryd.underlying26 ua (by decide) (by rw [um]; decide) t7
theorem vK : Rd zP 28 BenchBook TG := Xh BenchBook.mk Tryd.underlying28 uA u9 r3 u7 ui c3 rfl rfl rfl t8 (fun _ _ _ => rfl) (fun _ _ _ h1 h2 _ => ⟨h1, few h2.1, h2.2⟩)
theorem uZ : Rd zP 29 (Ar 3 Int) (fun s => ∀ y ∈ s.l, True) := Rd.array Tryd.underlying29 c3 u6 r3
theorem u0 : Rd zP 58 (Ar 2 Int) (fun s => ∀ y ∈ s.l, True) := Rd.array Tryd.underlying58 c3 uf r3
theorem Xo {t : TypeId} {f0 f1 : Field} (ht : zP.underlying t = some (.struct #[f0, f1])) (h0 : f0.type = 3) (h1 : f1.type = 3) (o0 : f0.offset = 0) (o1 : f1.offset = 1) (hc : zP.cellsOf t = 2)
  {H : Type} {enc : TypeId × Value → H} {W : World} {held : Bool} {sp : Nat → Bool} {fuel : Nat} {cs : List Value} {a b : Int} {p : List MemPlace} (h : DataW.trod enc zP W 0 sp held fuel t cs = some (.agg [.lit (.int .i64 a), .lit (.int .i64 b)], p)) :
  cs = [a, b].map fun z => Value.int .i64 z := by
 obtain ⟨xs, n, _, hx, hl, hxl, hget⟩ := DataW.trod_struct ht h
 simp only [List.size_toArray, List.length_cons, List.length_nil] at hxl
 have g0 := hget 0 f0 rfl
 have g1 := hget 1 f1 rfl
 rw [h0, o0, c3] at g0
 rw [h1, o1, c3] at g1
 match xs, hxl with
 | [x0, x1], _ =>
  obtain ⟨k0, e0, y0, _⟩ := DataW.trod_int zi g0
  obtain ⟨k1, e1, y1, _⟩ := DataW.trod_int zi g1
  simp only [Prod.mk.injEq, DataW.agg.injEq, List.map_cons, List.map_nil, List.cons.injEq, y0, y1, DataW.lit.injEq, Lit.int.injEq, true_and, and_true] at hx
  obtain ⟨⟨rfl, rfl⟩, _⟩ := hx
  rw [hc] at hl
  match cs, hl with
  | [v0, v1], _ =>
   simp at e0 e1
   rw [e0, e1]
   rfl
theorem Lc : zP.globalNamed "decani/voice.unknown" = some 3 := by kernel_rfl
theorem TT : (zP.globals[3]?).map (·.type) = some 119 := by kernel_rfl
theorem NN : zP.globalNamed "decani/voice.nobody" = some 2 := by kernel_rfl
theorem WX : (zP.globals[2]?).map (·.type) = some 117 := by kernel_rfl
theorem MC : zP.globalNamed "decani/voice.kindsOf" = some 0 := by kernel_rfl
theorem UO : (zP.globals[0]?).map (·.type) = some 122 := by kernel_rfl
theorem LX : zP.globalNamed "decani/bench.nowhere" = some 1 := by kernel_rfl
theorem UC : (zP.globals[1]?).map (·.type) = some 81 := by kernel_rfl
def il : List (String × DataW Unit) := [("decani/voice.unknown", Rows.laid_decani_voice_unknown), ("decani/voice.nobody", Rows.laid_decani_voice_nobody), ("decani/voice.kindsOf", Rows.laid_decani_voice_kindsOf), ("decani/bench.nowhere", Rows.laid_decani_bench_nowhere)]
theorem Q4 {W : World} (h : laidMetH zP il W) : ∀ n, Cf (CZ W).im (CZ W).fm (.pointer (some ⟨n, 0, none⟩)) (.fptr (zT.globs n) 0) := by
 obtain ⟨g, t, cs, fuel, p, hg, ht, hv, hd⟩ := h.funcs (n := "decani/voice.kindsOf") (d := .agg [.iface "func" (.lit (.string [40, 100, 101, 99, 97, 110, 105, 47, 118, 111, 105, 99, 101, 46, 118, 111, 116, 101, 115, 41, 46, 115, 111, 109, 101])), .iface "func" (.lit (.string [40, 100, 101, 99, 97, 110, 105, 47, 118, 111, 105, 99, 101, 46, 118, 111, 116, 101, 115, 41, 46, 101, 97, 99, 104]))]) (by simp [il, Rows.laid_decani_voice_kindsOf])
 obtain rfl := Option.some.inj (MC.symm.trans hg)
 obtain rfl := Option.some.inj (UO.symm.trans ht)
 have r3 : Bg W cs.toList [.fn 100 [] [], .fn 101 [] []] := by
  obtain ⟨xs, m, _, hx, hl, hxl, hget⟩ := DataW.trod_array Tryd.underlying122 hd
  have ce : zP.cellsOf 121 = 1 := by kernel_rfl
  have ct : zP.cellsOf 122 = 2 := by kernel_rfl
  rw [ct] at hl
  have g0 := hget 0 (by decide)
  have g1 := hget 1 (by decide)
  rw [ce] at g0 g1
  obtain ⟨vs⟩ := cs
  match xs, hxl, vs, hl with
  | [x0, x1], _, [v0, v1], _ =>
   have hx' : x0.1 = .held [40, 100, 101, 99, 97, 110, 105, 47, 118, 111, 105, 99, 101, 46, 118, 111, 116, 101, 115, 41, 46, 115, 111, 109, 101] ∧ x1.1 = .held [40, 100, 101, 99, 97, 110, 105, 47, 118, 111, 105, 99, 101, 46, 118, 111, 116, 101, 115, 41, 46, 101, 97, 99, 104] := by
    have := congrArg Prod.fst hx
    have := DataW.agg.inj (this.symm.trans (show _ = DataW.agg [.held [40, 100, 101, 99, 97, 110, 105, 47, 118, 111, 105, 99, 101, 46, 118, 111, 116, 101, 115, 41, 46, 115, 111, 109, 101], .held [40, 100, 101, 99, 97, 110, 105, 47, 118, 111, 105, 99, 101, 46, 118, 111, 116, 101, 115, 41, 46, 101, 97, 99, 104]] from rfl))
    simpa using this
   obtain ⟨y0, y1⟩ := hx'
   have f0 : DataW.trod (funcToken zP) zP W 0 (fun _ => true) true m 121 [v0] = some (.held [40, 100, 101, 99, 97, 110, 105, 47, 118, 111, 105, 99, 101, 46, 118, 111, 116, 101, 115, 41, 46, 115, 111, 109, 101], x0.2) := by rw [← y0]; exact g0
   obtain rfl := func_of_trod (f0 := 100) Tryd.underlying121 (by kernel_rfl) f0
   have f1 : DataW.trod (funcToken zP) zP W 0 (fun _ => true) true m 121 [v1] = some (.held [40, 100, 101, 99, 97, 110, 105, 47, 118, 111, 105, 99, 101, 46, 118, 111, 116, 101, 115, 41, 46, 101, 97, 99, 104], x1.2) := by rw [← y1]; exact g1
   obtain rfl := func_of_trod (f0 := 101) Tryd.underlying121 (by kernel_rfl) f1
   exact (Bg.append (Bg.one1 rfl (.fn 100 #[] #[] [] [] rfl rfl (by simp) (by simp))) (Bg.one1 rfl (.fn 101 #[] #[] [] [] rfl rfl (by simp) (by simp))))
 have k0 := TC MC hv r3
 clear hd hv r3
 have h' : laidMet zP [("decani/voice.unknown", Rows.laid_decani_voice_unknown), ("decani/voice.nobody", Rows.laid_decani_voice_nobody), ("decani/bench.nowhere", Rows.laid_decani_bench_nowhere)] W := And.left h
 obtain ⟨ps, ⟨a1, b1, cs1, f1, p1, q1, hg1, ht1, hv1, hd1, ⟨a2, b2, cs2, f2, p2, q2, hg2, ht2, hv2, hd2, ⟨a3, b3, cs3, f3, p3, q3, hg3, ht3, hv3, hd3, _, _⟩, _⟩, _⟩, _, _⟩ := h'
 obtain rfl := Option.some.inj (Lc.symm.trans hg1)
 obtain rfl := Option.some.inj (TT.symm.trans ht1)
 obtain rfl := Option.some.inj (NN.symm.trans hg2)
 obtain rfl := Option.some.inj (WX.symm.trans ht2)
 obtain rfl := Option.some.inj (LX.symm.trans hg3)
 obtain rfl := Option.some.inj (UC.symm.trans ht3)
 have e1 := Lib.cells_of_tab (zs := [-1, -1, -1, -1, -1]) Tryd.underlying119 zi c3 (by kernel_rfl) hd1
 have e2 := Xo Tryd.underlying117 rfl rfl rfl rfl (by kernel_rfl) hd2
 have e3 := Xo Tryd.underlying81 rfl rfl rfl rfl (by kernel_rfl) hd3
 have k3 := TC Lc hv1 (xs := [-1, -1, -1, -1, -1].map .int) (by rw [e1]; exact Bg.ints _)
 have k2 := TC NN hv2 (xs := [-1, -1].map .int) (by rw [e2]; exact Bg.ints _)
 have k1 := TC LX hv3 (xs := [-1, -1].map .int) (by rw [e3]; exact Bg.ints _)
 intro n
 match n with
 | 0 => exact k0
 | 1 => exact k1
 | 2 => exact k2
 | 3 => exact k3
 | n + 4 => exact mE _
end Go.Lf
