/- A part of the proof. -/
import Derived.Test.YtpkbckdhkaggbaaDoorx47
import Derived.Test.YtpkbckdhkaggbaaDoorx48
import Derived.Test.YtpkbckdhkaggbaaDoorx49
import Derived.Test.YtpkbckdhkaggbaaDoorx50
import Derived.Test.YtpkbckdhkaggbaaDoorx51
import Derived.Test.YtpkbckdhkaggbaaDoorCards
import Derived.Test.YtpkbckdhkaggbaaDoorTie
import Derived.Deep.DeepHandedRow
import Derived.Deep.DeepWitnessRowRef
import Derived.Stop.Joined
set_option linter.all false
namespace Go.Proofs.YtpkbckdhkaggbaaDoor
open Go Go.Lf Go.ChangeShapes Go.WideShapes Go.ChangeAt Go.RowKit
set_option maxRecDepth 100000
theorem own : ownKnob Tryd.prog.godebug = none := by kernel_rfl
theorem eG : laidOutB Tryd.prog = true := by kernel_rfl
theorem uU : zT.P.follows .mixedOrders = true := by kernel_rfl
theorem u4 : Tryd.prog.readableRec 3 = true ∧ 3 < Tryd.prog.types.size := ⟨by kernel_rfl, of_decide_eq_true (by kernel_rfl)⟩
theorem sf : Tryd.prog.readableRec 28 = true ∧ 28 < Tryd.prog.types.size := ⟨by kernel_rfl, of_decide_eq_true (by kernel_rfl)⟩
theorem tc : Tryd.prog.readableRec 29 = true ∧ 29 < Tryd.prog.types.size := ⟨by kernel_rfl, of_decide_eq_true (by kernel_rfl)⟩
theorem ti : Tryd.prog.readableRec 57 = true ∧ 57 < Tryd.prog.types.size := ⟨by kernel_rfl, of_decide_eq_true (by kernel_rfl)⟩
theorem ta : Tryd.prog.readableRec 58 = true ∧ 58 < Tryd.prog.types.size := ⟨by kernel_rfl, of_decide_eq_true (by kernel_rfl)⟩
theorem jC : ∀ t ∈ [28, 29], Tryd.prog.readableRec t = true ∧ t < Tryd.prog.types.size := by
 intro t ht
 rcases (show t = 28 ∨ t = 29 by simpa using ht) with rfl | rfl
 ·exact sf
 ·exact tc
theorem lC {f : Nat} {fn : Func} (hp : fn.params = #[28, 29]) (hr : fn.resultTypes = #[4]) {s : ChangeSpec} (hs : s.vars = []) (hfn : ∀ (H : Type) (d0 d1 : DataW H), s.fn H [d0, d1] = { results := [.lit (.bool true)], args := [d0, d1] })
  (hlaw : ∀ (a0 : BenchBook) (a1 : (Ar 3 Int)), TG a0 → Fin zL f [vG.enc a0, vG.enc a1] (.bool true))
  (H : Type) (enc : TypeId × Value → H) (W : World) (base : Nat) (args : Array Value) (ds gs : List (DataW H)) (before : List MemPlace)
  (hval : ∀ (j : Nat) t v, fn.params[j]? = some t → args[j]? = some v → Value.okWide Tryd.prog W .any base t v)
  (hW : DataW.Whole enc Tryd.prog fn.params.toList s.vars false W args.toList ds gs before) (hw : (DataW.weightsEach Tryd.prog (fn.params.toList ++ s.plain.varTypes Tryd.prog) (ds ++ gs)).all (· ≤ reachBytes) = true) (hL : laidMetH Tryd.prog il W) :
  Calls Tryd.prog f args W fun e W' => ∃ v, e = .returned v ∧ s.post enc Tryd.prog fn false true false false W args v W' := by
 have hW' := hW
 obtain ⟨p, q, hA, hV, rfl, hfz, hnd⟩ := hW
 rw [hp] at hA hval
 obtain ⟨v0, vs0, d0, ds0, p0, q0, hargs, rfl, rfl, h0, r0⟩ := trodAll_cons hA
 obtain ⟨v1, vs1, d1, ds1, p1, q1, rfl, rfl, rfl, h1, r1⟩ := trodAll_cons r0
 obtain ⟨rfl, rfl, rfl⟩ := trodAll_nil r1
 obtain rfl : args = #[v0, v1] := by cases args; simp_all
 have hw0 : (d0.weights Tryd.prog 28).all (· ≤ reachBytes) = true := Bl (i := 0) hw (by rw [hp]; rfl) rfl
 have hw1 : (d1.weights Tryd.prog 29).all (· ≤ reachBytes) = true := Bl (i := 1) hw (by rw [hp]; rfl) rfl
 obtain ⟨a0, ha0, hf0⟩ := iQ vK Tryd.underlying28 rfl (hval 0 28 v0 rfl rfl) h0 hw0
 obtain ⟨a1, ha1, _⟩ := kB uZ Tryd.underlying29 (hval 1 29 v1 rfl rfl) h1 hw1
 refine (Uo (T := zT) uU (j8 ▸ hlaw a0 a1 hf0) (Q4 hL) rfl (fun i d hd => by
  match i, hd with
  | 0, hd => simp only [List.getElem?_cons_zero, Option.some.injEq] at hd; subst hd; exact ha0
  | 1, hd => simp only [List.getElem?_cons_succ, List.getElem?_cons_zero, Option.some.injEq] at hd; subst hd; exact ha1)).mono fun e W' ⟨he, k1, k2, k3, k4, k5, k6⟩ => ?_
 exact ⟨_, he, Zh eG hr Tryd.underlying4 (by rw [hp]; exact jC) hs hW' (by rw [hfn]) (by rw [hfn]) (by rw [hfn]) k1 k2 k3 k4 k5 k6⟩
theorem j0 : ∀ t ∈ [28, 3], Tryd.prog.readableRec t = true ∧ t < Tryd.prog.types.size := by
 intro t ht
 rcases (show t = 28 ∨ t = 3 by simpa using ht) with rfl | rfl
 ·exact sf
 ·exact u4
theorem nk {f : Nat} {fn : Func} (hp : fn.params = #[28, 3]) (hr : fn.resultTypes = #[4]) {s : ChangeSpec} (hs : s.vars = []) (hfn : ∀ (H : Type) (d0 d1 : DataW H), s.fn H [d0, d1] = { results := [.lit (.bool true)], args := [d0, d1] })
  (hlaw : ∀ (a0 : BenchBook) (a1 : Int), TG a0 → Fin zL f [vG.enc a0, vG.enc a1] (.bool true))
  (H : Type) (enc : TypeId × Value → H) (W : World) (base : Nat) (args : Array Value) (ds gs : List (DataW H)) (before : List MemPlace)
  (hval : ∀ (j : Nat) t v, fn.params[j]? = some t → args[j]? = some v → Value.okWide Tryd.prog W .any base t v)
  (hW : DataW.Whole enc Tryd.prog fn.params.toList s.vars false W args.toList ds gs before) (hw : (DataW.weightsEach Tryd.prog (fn.params.toList ++ s.plain.varTypes Tryd.prog) (ds ++ gs)).all (· ≤ reachBytes) = true) (hL : laidMetH Tryd.prog il W) :
  Calls Tryd.prog f args W fun e W' => ∃ v, e = .returned v ∧ s.post enc Tryd.prog fn false true false false W args v W' := by
 have hW' := hW
 obtain ⟨p, q, hA, hV, rfl, hfz, hnd⟩ := hW
 rw [hp] at hA hval
 obtain ⟨v0, vs0, d0, ds0, p0, q0, hargs, rfl, rfl, h0, r0⟩ := trodAll_cons hA
 obtain ⟨v1, vs1, d1, ds1, p1, q1, rfl, rfl, rfl, h1, r1⟩ := trodAll_cons r0
 obtain ⟨rfl, rfl, rfl⟩ := trodAll_nil r1
 obtain rfl : args = #[v0, v1] := by cases args; simp_all
 have hw0 : (d0.weights Tryd.prog 28).all (· ≤ reachBytes) = true := Bl (i := 0) hw (by rw [hp]; rfl) rfl
 have hw1 : (d1.weights Tryd.prog 3).all (· ≤ reachBytes) = true := Bl (i := 1) hw (by rw [hp]; rfl) rfl
 obtain ⟨a0, ha0, hf0⟩ := iQ vK Tryd.underlying28 rfl (hval 0 28 v0 rfl rfl) h0 hw0
 obtain ⟨a1, ha1, _⟩ := pM r3 zi (hval 1 3 v1 rfl rfl) h1 hw1
 refine (Uo (T := zT) uU (j8 ▸ hlaw a0 a1 hf0) (Q4 hL) rfl (fun i d hd => by
  match i, hd with
  | 0, hd => simp only [List.getElem?_cons_zero, Option.some.injEq] at hd; subst hd; exact ha0
  | 1, hd => simp only [List.getElem?_cons_succ, List.getElem?_cons_zero, Option.some.injEq] at hd; subst hd; exact ha1)).mono fun e W' ⟨he, k1, k2, k3, k4, k5, k6⟩ => ?_
 exact ⟨_, he, Zh eG hr Tryd.underlying4 (by rw [hp]; exact j0) hs hW' (by rw [hfn]) (by rw [hfn]) (by rw [hfn]) k1 k2 k3 k4 k5 k6⟩
theorem Yu : ∀ t ∈ [28, 57, 58], Tryd.prog.readableRec t = true ∧ t < Tryd.prog.types.size := by
 intro t ht
 rcases (show t = 28 ∨ t = 57 ∨ t = 58 by simpa using ht) with rfl | rfl | rfl
 ·exact sf
 ·exact ti
 ·exact ta
theorem Z6 {f : Nat} {fn : Func} (hp : fn.params = #[28, 57, 58]) (hr : fn.resultTypes = #[4]) {s : ChangeSpec} (hs : s.vars = []) (hfn : ∀ (H : Type) (d0 d1 d2 : DataW H), s.fn H [d0, d1, d2] = { results := [.lit (.bool true)], args := [d0, d1, d2] })
  (hlaw : ∀ (a0 : BenchBook) (a1 : AE) (a2 : (Ar 2 Int)), TG a0 → Fin zL f [vG.enc a0, vG.enc a1, vG.enc a2] (.bool true))
  (H : Type) (enc : TypeId × Value → H) (W : World) (base : Nat) (args : Array Value) (ds gs : List (DataW H)) (before : List MemPlace)
  (hval : ∀ (j : Nat) t v, fn.params[j]? = some t → args[j]? = some v → Value.okWide Tryd.prog W .any base t v)
  (hW : DataW.Whole enc Tryd.prog fn.params.toList s.vars false W args.toList ds gs before) (hw : (DataW.weightsEach Tryd.prog (fn.params.toList ++ s.plain.varTypes Tryd.prog) (ds ++ gs)).all (· ≤ reachBytes) = true) (hL : laidMetH Tryd.prog il W) :
  Calls Tryd.prog f args W fun e W' => ∃ v, e = .returned v ∧ s.post enc Tryd.prog fn false true false false W args v W' := by
 have hW' := hW
 obtain ⟨p, q, hA, hV, rfl, hfz, hnd⟩ := hW
 rw [hp] at hA hval
 obtain ⟨v0, vs0, d0, ds0, p0, q0, hargs, rfl, rfl, h0, r0⟩ := trodAll_cons hA
 obtain ⟨v1, vs1, d1, ds1, p1, q1, rfl, rfl, rfl, h1, r1⟩ := trodAll_cons r0
 obtain ⟨v2, vs2, d2, ds2, p2, q2, rfl, rfl, rfl, h2, r2⟩ := trodAll_cons r1
 obtain ⟨rfl, rfl, rfl⟩ := trodAll_nil r2
 obtain rfl : args = #[v0, v1, v2] := by cases args; simp_all
 have hw0 : (d0.weights Tryd.prog 28).all (· ≤ reachBytes) = true := Bl (i := 0) hw (by rw [hp]; rfl) rfl
 have hw1 : (d1.weights Tryd.prog 57).all (· ≤ reachBytes) = true := Bl (i := 1) hw (by rw [hp]; rfl) rfl
 have hw2 : (d2.weights Tryd.prog 58).all (· ≤ reachBytes) = true := Bl (i := 2) hw (by rw [hp]; rfl) rfl
 obtain ⟨a0, ha0, hf0⟩ := iQ vK Tryd.underlying28 rfl (hval 0 28 v0 rfl rfl) h0 hw0
 obtain ⟨a1, ha1, hf1⟩ := iQ vC Tryd.underlying57 rfl (hval 1 57 v1 rfl rfl) h1 hw1
 obtain ⟨a2, ha2, _⟩ := kB u0 Tryd.underlying58 (hval 2 58 v2 rfl rfl) h2 hw2
 refine (Uo (T := zT) uU (j8 ▸ hlaw a0 a1 a2 hf0) (Q4 hL) rfl (fun i d hd => by
  match i, hd with
  | 0, hd => simp only [List.getElem?_cons_zero, Option.some.injEq] at hd; subst hd; exact ha0
  | 1, hd => simp only [List.getElem?_cons_succ, List.getElem?_cons_zero, Option.some.injEq] at hd; subst hd; exact ha1
  | 2, hd => simp only [List.getElem?_cons_succ, List.getElem?_cons_zero, Option.some.injEq] at hd; subst hd; exact ha2)).mono fun e W' ⟨he, k1, k2, k3, k4, k5, k6⟩ => ?_
 exact ⟨_, he, Zh eG hr Tryd.underlying4 (by rw [hp]; exact Yu) hs hW' (by rw [hfn]) (by rw [hfn]) (by rw [hfn]) k1 k2 k3 k4 k5 k6⟩
theorem YV (os : Os) (args : Array Value) : laidMetH zP il ((World.doorLaid Tryd.prog 600 os).forCall (fun _ _ => 0) ⟨#[], args, []⟩).memory :=
 laidMetH_of_parts3 (fuel := 8) (laidMet_of_run' 8 (by kernel_rfl) (by kernel_rfl)) (by kernel_rfl) (by kernel_rfl)
end Go.Proofs.YtpkbckdhkaggbaaDoor
