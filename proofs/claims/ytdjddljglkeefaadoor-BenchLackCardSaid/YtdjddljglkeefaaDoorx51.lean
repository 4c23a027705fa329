/- A part of the proof. -/
import Derived.Test.YtdjddljglkeefaaDoorx46
import Derived.Test.YtdjddljglkeefaaDoorx47
import Derived.Test.YtdjddljglkeefaaDoorx48
import Derived.Test.YtdjddljglkeefaaDoorx49
import Derived.Test.YtdjddljglkeefaaDoorx50
import Derived.Test.YtdjddljglkeefaaDoorCards
import Derived.Test.YtdjddljglkeefaaDoorTie
import Derived.Deep.DeepHandedRow
import Derived.Deep.DeepWitnessRowRef
import Derived.Stop.Joined
set_option linter.all false
namespace Go.Proofs.YtdjddljglkeefaaDoor
open Go Go.Lf Go.ChangeShapes Go.WideShapes Go.ChangeAt Go.RowKit
set_option maxRecDepth 100000
theorem own : ownKnob Tryd.prog.godebug = none := by kernel_rfl
theorem ay : laidOutB Tryd.prog = true := by kernel_rfl
theorem zp : zT.P.follows .mixedOrders = true := by kernel_rfl
theorem zH : Tryd.prog.readableRec 3 = true ∧ 3 < Tryd.prog.types.size := ⟨by kernel_rfl, of_decide_eq_true (by kernel_rfl)⟩
theorem xX : Tryd.prog.readableRec 28 = true ∧ 28 < Tryd.prog.types.size := ⟨by kernel_rfl, of_decide_eq_true (by kernel_rfl)⟩
theorem yq : Tryd.prog.readableRec 29 = true ∧ 29 < Tryd.prog.types.size := ⟨by kernel_rfl, of_decide_eq_true (by kernel_rfl)⟩
theorem yb : Tryd.prog.readableRec 32 = true ∧ 32 < Tryd.prog.types.size := ⟨by kernel_rfl, of_decide_eq_true (by kernel_rfl)⟩
theorem fV : ∀ t ∈ [28, 29, 3], Tryd.prog.readableRec t = true ∧ t < Tryd.prog.types.size := by
 intro t ht
 rcases (show t = 28 ∨ t = 29 ∨ t = 3 by simpa using ht) with rfl | rfl | rfl
 ·exact xX
 ·exact yq
 ·exact zH
theorem je {f : Nat} {fn : Func} (hp : fn.params = #[28, 29, 3]) (hr : fn.resultTypes = #[4]) {s : ChangeSpec} (hs : s.vars = []) (hfn : ∀ (H : Type) (d0 d1 d2 : DataW H), s.fn H [d0, d1, d2] = { results := [.lit (.bool true)], args := [d0, d1, d2] })
  (hlaw : ∀ (a0 : BenchBook) (a1 : (Sl AB)) (a2 : Int), Tf a0 → a1.l.length < 4611686018427387904 → Fin zL f [zI.enc a0, zI.enc a1, zI.enc a2] (.bool true))
  (H : Type) (enc : TypeId × Value → H) (W : World) (base : Nat) (args : Array Value) (ds gs : List (DataW H)) (before : List MemPlace)
  (hval : ∀ (j : Nat) t v, fn.params[j]? = some t → args[j]? = some v → Value.okWide Tryd.prog W .any base t v)
  (hW : DataW.Whole enc Tryd.prog fn.params.toList s.vars false W args.toList ds gs before) (hw : (DataW.weightsEach Tryd.prog (fn.params.toList ++ s.plain.varTypes Tryd.prog) (ds ++ gs)).all (· ≤ reachBytes) = true) (hL : laidMetH Tryd.prog jV W) :
  Calls Tryd.prog f args W fun e W' => ∃ v, e = .returned v ∧ s.post enc Tryd.prog fn false true false false W args v W' := by
 have hW' := hW
 obtain ⟨p, q, hA, hV, rfl, hfz, hnd⟩ := hW
 rw [hp] at hA hval
 obtain ⟨v0, vs0, d0, ds0, p0, q0, hargs, rfl, rfl, h0, r0⟩ := trodAll_cons hA
 obtain ⟨v1, vs1, d1, ds1, p1, q1, rfl, rfl, rfl, h1, r1⟩ := trodAll_cons r0
 obtain ⟨v2, vs2, d2, ds2, p2, q2, rfl, rfl, rfl, h2, r2⟩ := trodAll_cons r1
 obtain ⟨rfl, rfl, rfl⟩ := trodAll_nil r2
 obtain rfl : args = #[v0, v1, v2] := by cases args; simp_all
 have hw0 : (d0.weights Tryd.prog 28).all (· ≤ reachBytes) = true := BO (i := 0) hw (by rw [hp]; rfl) rfl
 have hw1 : (d1.weights Tryd.prog 29).all (· ≤ reachBytes) = true := BO (i := 1) hw (by rw [hp]; rfl) rfl
 have hw2 : (d2.weights Tryd.prog 3).all (· ≤ reachBytes) = true := BO (i := 2) hw (by rw [hp]; rfl) rfl
 obtain ⟨a0, ha0, hf0⟩ := l5 zw Tryd.underlying28 rfl (hval 0 28 v0 rfl rfl) h0 hw0
 obtain ⟨a1, ha1, hl1, hm1⟩ := ju r29 Tryd.underlying29 (hval 1 29 v1 rfl rfl) h1 hw1
 obtain ⟨a2, ha2, _⟩ := jk r3 zi (hval 2 3 v2 rfl rfl) h2 hw2
 refine (Ry (T := zT) zp (nL ▸ hlaw a0 a1 a2 hf0 (few hl1)) (PI hL) rfl (fun i d hd => by
  match i, hd with
  | 0, hd => simp only [List.getElem?_cons_zero, Option.some.injEq] at hd; subst hd; exact ha0
  | 1, hd => simp only [List.getElem?_cons_succ, List.getElem?_cons_zero, Option.some.injEq] at hd; subst hd; exact ha1
  | 2, hd => simp only [List.getElem?_cons_succ, List.getElem?_cons_zero, Option.some.injEq] at hd; subst hd; exact ha2)).mono fun e W' ⟨he, k1, k2, k3, k4, k5, k6⟩ => ?_
 exact ⟨_, he, VT ay hr Tryd.underlying4 (by rw [hp]; exact fV) hs hW' (by rw [hfn]) (by rw [hfn]) (by rw [hfn]) k1 k2 k3 k4 k5 k6⟩
theorem oN : ∀ t ∈ [28, 32], Tryd.prog.readableRec t = true ∧ t < Tryd.prog.types.size := by
 intro t ht
 rcases (show t = 28 ∨ t = 32 by simpa using ht) with rfl | rfl
 ·exact xX
 ·exact yb
theorem fg {f : Nat} {fn : Func} (hp : fn.params = #[28, 32]) (hr : fn.resultTypes = #[4]) {s : ChangeSpec} (hs : s.vars = []) (hfn : ∀ (H : Type) (d0 d1 : DataW H), s.fn H [d0, d1] = { results := [.lit (.bool true)], args := [d0, d1] })
  (hlaw : ∀ (a0 : BenchBook) (a1 : (Sl Int)), Tf a0 → a1.l.length < 4611686018427387904 → Fin zL f [zI.enc a0, zI.enc a1] (.bool true))
  (H : Type) (enc : TypeId × Value → H) (W : World) (base : Nat) (args : Array Value) (ds gs : List (DataW H)) (before : List MemPlace)
  (hval : ∀ (j : Nat) t v, fn.params[j]? = some t → args[j]? = some v → Value.okWide Tryd.prog W .any base t v)
  (hW : DataW.Whole enc Tryd.prog fn.params.toList s.vars false W args.toList ds gs before) (hw : (DataW.weightsEach Tryd.prog (fn.params.toList ++ s.plain.varTypes Tryd.prog) (ds ++ gs)).all (· ≤ reachBytes) = true) (hL : laidMetH Tryd.prog jV W) :
  Calls Tryd.prog f args W fun e W' => ∃ v, e = .returned v ∧ s.post enc Tryd.prog fn false true false false W args v W' := by
 have hW' := hW
 obtain ⟨p, q, hA, hV, rfl, hfz, hnd⟩ := hW
 rw [hp] at hA hval
 obtain ⟨v0, vs0, d0, ds0, p0, q0, hargs, rfl, rfl, h0, r0⟩ := trodAll_cons hA
 obtain ⟨v1, vs1, d1, ds1, p1, q1, rfl, rfl, rfl, h1, r1⟩ := trodAll_cons r0
 obtain ⟨rfl, rfl, rfl⟩ := trodAll_nil r1
 obtain rfl : args = #[v0, v1] := by cases args; simp_all
 have hw0 : (d0.weights Tryd.prog 28).all (· ≤ reachBytes) = true := BO (i := 0) hw (by rw [hp]; rfl) rfl
 have hw1 : (d1.weights Tryd.prog 32).all (· ≤ reachBytes) = true := BO (i := 1) hw (by rw [hp]; rfl) rfl
 obtain ⟨a0, ha0, hf0⟩ := l5 zw Tryd.underlying28 rfl (hval 0 28 v0 rfl rfl) h0 hw0
 obtain ⟨a1, ha1, hl1, hm1⟩ := ju r32 Tryd.underlying32 (hval 1 32 v1 rfl rfl) h1 hw1
 refine (Ry (T := zT) zp (nL ▸ hlaw a0 a1 hf0 (few hl1)) (PI hL) rfl (fun i d hd => by
  match i, hd with
  | 0, hd => simp only [List.getElem?_cons_zero, Option.some.injEq] at hd; subst hd; exact ha0
  | 1, hd => simp only [List.getElem?_cons_succ, List.getElem?_cons_zero, Option.some.injEq] at hd; subst hd; exact ha1)).mono fun e W' ⟨he, k1, k2, k3, k4, k5, k6⟩ => ?_
 exact ⟨_, he, VT ay hr Tryd.underlying4 (by rw [hp]; exact oN) hs hW' (by rw [hfn]) (by rw [hfn]) (by rw [hfn]) k1 k2 k3 k4 k5 k6⟩
theorem eO : ∀ t ∈ [28, 32, 3], Tryd.prog.readableRec t = true ∧ t < Tryd.prog.types.size := by
 intro t ht
 rcases (show t = 28 ∨ t = 32 ∨ t = 3 by simpa using ht) with rfl | rfl | rfl
 ·exact xX
 ·exact yb
 ·exact zH
theorem kF {f : Nat} {fn : Func} (hp : fn.params = #[28, 32, 3]) (hr : fn.resultTypes = #[4]) {s : ChangeSpec} (hs : s.vars = []) (hfn : ∀ (H : Type) (d0 d1 d2 : DataW H), s.fn H [d0, d1, d2] = { results := [.lit (.bool true)], args := [d0, d1, d2] })
  (hlaw : ∀ (a0 : BenchBook) (a1 : (Sl Int)) (a2 : Int), Tf a0 → a1.l.length < 4611686018427387904 → Fin zL f [zI.enc a0, zI.enc a1, zI.enc a2] (.bool true))
  (H : Type) (enc : TypeId × Value → H) (W : World) (base : Nat) (args : Array Value) (ds gs : List (DataW H)) (before : List MemPlace)
  (hval : ∀ (j : Nat) t v, fn.params[j]? = some t → args[j]? = some v → Value.okWide Tryd.prog W .any base t v)
  (hW : DataW.Whole enc Tryd.prog fn.params.toList s.vars false W args.toList ds gs before) (hw : (DataW.weightsEach Tryd.prog (fn.params.toList ++ s.plain.varTypes Tryd.prog) (ds ++ gs)).all (· ≤ reachBytes) = true) (hL : laidMetH Tryd.prog jV W) :
  Calls Tryd.prog f args W fun e W' => ∃ v, e = .returned v ∧ s.post enc Tryd.prog fn false true false false W args v W' := by
 have hW' := hW
 obtain ⟨p, q, hA, hV, rfl, hfz, hnd⟩ := hW
 rw [hp] at hA hval
 obtain ⟨v0, vs0, d0, ds0, p0, q0, hargs, rfl, rfl, h0, r0⟩ := trodAll_cons hA
 obtain ⟨v1, vs1, d1, ds1, p1, q1, rfl, rfl, rfl, h1, r1⟩ := trodAll_cons r0
 obtain ⟨v2, vs2, d2, ds2, p2, q2, rfl, rfl, rfl, h2, r2⟩ := trodAll_cons r1
 obtain ⟨rfl, rfl, rfl⟩ := trodAll_nil r2
 obtain rfl : args = #[v0, v1, v2] := by cases args; simp_all
 have hw0 : (d0.weights Tryd.prog 28).all (· ≤ reachBytes) = true := BO (i := 0) hw (by rw [hp]; rfl) rfl
 have hw1 : (d1.weights Tryd.prog 32).all (· ≤ reachBytes) = true := BO (i := 1) hw (by rw [hp]; rfl) rfl
 have hw2 : (d2.weights Tryd.prog 3).all (· ≤ reachBytes) = true := BO (i := 2) hw (by rw [hp]; rfl) rfl
 obtain ⟨a0, ha0, hf0⟩ := l5 zw Tryd.underlying28 rfl (hval 0 28 v0 rfl rfl) h0 hw0
 obtain ⟨a1, ha1, hl1, hm1⟩ := ju r32 Tryd.underlying32 (hval 1 32 v1 rfl rfl) h1 hw1
 obtain ⟨a2, ha2, _⟩ := jk r3 zi (hval 2 3 v2 rfl rfl) h2 hw2
 refine (Ry (T := zT) zp (nL ▸ hlaw a0 a1 a2 hf0 (few hl1)) (PI hL) rfl (fun i d hd => by
  match i, hd with
  | 0, hd => simp only [List.getElem?_cons_zero, Option.some.injEq] at hd; subst hd; exact ha0
  | 1, hd => simp only [List.getElem?_cons_succ, List.getElem?_cons_zero, Option.some.injEq] at hd; subst hd; exact ha1
  | 2, hd => simp only [List.getElem?_cons_succ, List.getElem?_cons_zero, Option.some.injEq] at hd; subst hd; exact ha2)).mono fun e W' ⟨he, k1, k2, k3, k4, k5, k6⟩ => ?_
 exact ⟨_, he, VT ay hr Tryd.underlying4 (by rw [hp]; exact eO) hs hW' (by rw [hfn]) (by rw [hfn]) (by rw [hfn]) k1 k2 k3 k4 k5 k6⟩
theorem qZ : ∀ t ∈ [28, 3], Tryd.prog.readableRec t = true ∧ t < Tryd.prog.types.size := by
 intro t ht
 rcases (show t = 28 ∨ t = 3 by simpa using ht) with rfl | rfl
 ·exact xX
 ·exact zH
theorem sZ {f : Nat} {fn : Func} (hp : fn.params = #[28, 3]) (hr : fn.resultTypes = #[4]) {s : ChangeSpec} (hs : s.vars = []) (hfn : ∀ (H : Type) (d0 d1 : DataW H), s.fn H [d0, d1] = { results := [.lit (.bool true)], args := [d0, d1] })
  (hlaw : ∀ (a0 : BenchBook) (a1 : Int), Tf a0 → Fin zL f [zI.enc a0, zI.enc a1] (.bool true))
  (H : Type) (enc : TypeId × Value → H) (W : World) (base : Nat) (args : Array Value) (ds gs : List (DataW H)) (before : List MemPlace)
  (hval : ∀ (j : Nat) t v, fn.params[j]? = some t → args[j]? = some v → Value.okWide Tryd.prog W .any base t v)
  (hW : DataW.Whole enc Tryd.prog fn.params.toList s.vars false W args.toList ds gs before) (hw : (DataW.weightsEach Tryd.prog (fn.params.toList ++ s.plain.varTypes Tryd.prog) (ds ++ gs)).all (· ≤ reachBytes) = true) (hL : laidMetH Tryd.prog jV W) :
  Calls Tryd.prog f args W fun e W' => ∃ v, e = .returned v ∧ s.post enc Tryd.prog fn false true false false W args v W' := by
 have hW' := hW
 obtain ⟨p, q, hA, hV, rfl, hfz, hnd⟩ := hW
 rw [hp] at hA hval
 obtain ⟨v0, vs0, d0, ds0, p0, q0, hargs, rfl, rfl, h0, r0⟩ := trodAll_cons hA
 obtain ⟨v1, vs1, d1, ds1, p1, q1, rfl, rfl, rfl, h1, r1⟩ := trodAll_cons r0
 obtain ⟨rfl, rfl, rfl⟩ := trodAll_nil r1
 obtain rfl : args = #[v0, v1] := by cases args; simp_all
 have hw0 : (d0.weights Tryd.prog 28).all (· ≤ reachBytes) = true := BO (i := 0) hw (by rw [hp]; rfl) rfl
 have hw1 : (d1.weights Tryd.prog 3).all (· ≤ reachBytes) = true := BO (i := 1) hw (by rw [hp]; rfl) rfl
 obtain ⟨a0, ha0, hf0⟩ := l5 zw Tryd.underlying28 rfl (hval 0 28 v0 rfl rfl) h0 hw0
 obtain ⟨a1, ha1, _⟩ := jk r3 zi (hval 1 3 v1 rfl rfl) h1 hw1
 refine (Ry (T := zT) zp (nL ▸ hlaw a0 a1 hf0) (PI hL) rfl (fun i d hd => by
  match i, hd with
  | 0, hd => simp only [List.getElem?_cons_zero, Option.some.injEq] at hd; subst hd; exact ha0
  | 1, hd => simp only [List.getElem?_cons_succ, List.getElem?_cons_zero, Option.some.injEq] at hd; subst hd; exact ha1)).mono fun e W' ⟨he, k1, k2, k3, k4, k5, k6⟩ => ?_
 exact ⟨_, he, VT ay hr Tryd.underlying4 (by rw [hp]; exact qZ) hs hW' (by rw [hfn]) (by rw [hfn]) (by rw [hfn]) k1 k2 k3 k4 k5 k6⟩
theorem RZ (os : Os) (args : Array Value) : laidMetH zP jV ((World.doorLaid Tryd.prog 600 os).forCall (fun _ _ => 0) ⟨#[], args, []⟩).memory :=
 laidMetH_of_parts3 (fuel := 8) (laidMet_of_run' 8 (by kernel_rfl) (by kernel_rfl)) (by kernel_rfl) (by kernel_rfl)
end Go.Proofs.YtdjddljglkeefaaDoor
