/- A part of the proof. -/
import Derived.Test.YtohgomfnigdaoaaDoory47
import Derived.Test.YtohgomfnigdaoaaDoory48
import Derived.Test.YtohgomfnigdaoaaDoory49
import Derived.Test.YtohgomfnigdaoaaDoory50
import Derived.Test.YtohgomfnigdaoaaDoory51
import Derived.Test.YtohgomfnigdaoaaDoorCards
import Derived.Test.YtohgomfnigdaoaaDoorTie
import Derived.Deep.DeepHandedRow
import Derived.Deep.DeepWitnessRowRef
import Derived.Stop.Joined
set_option linter.all false
namespace Go.Proofs.YtohgomfnigdaoaaDoor
open Go Go.Lf Go.ChangeShapes Go.WideShapes Go.ChangeAt Go.RowKit
set_option maxRecDepth 100000
theorem own : ownKnob Tryd.prog.godebug = none := by kernel_rfl
theorem oW : laidOutB Tryd.prog = true := by kernel_rfl
theorem mix : zT.P.follows .mixedOrders = true := by kernel_rfl
theorem zE : Tryd.prog.readableRec 25 = true ∧ 25 < Tryd.prog.types.size := ⟨by kernel_rfl, of_decide_eq_true (by kernel_rfl)⟩
theorem AAD : Tryd.prog.readableRec 26 = true ∧ 26 < Tryd.prog.types.size := ⟨by kernel_rfl, of_decide_eq_true (by kernel_rfl)⟩
theorem zm : Tryd.prog.readableRec 56 = true ∧ 56 < Tryd.prog.types.size := ⟨by kernel_rfl, of_decide_eq_true (by kernel_rfl)⟩
theorem md : ∀ t ∈ [25, 56], Tryd.prog.readableRec t = true ∧ t < Tryd.prog.types.size := by
 intro t ht
 rcases (show t = 25 ∨ t = 56 by simpa using ht) with rfl | rfl
 ·exact zE
 ·exact zm
theorem wA {f : Nat} {fn : Func} (hp : fn.params = #[25, 56]) (hr : fn.resultTypes = #[4]) {s : ChangeSpec} (hs : s.vars = []) (hfn : ∀ (H : Type) (d0 d1 : DataW H), s.fn H [d0, d1] = { results := [.lit (.bool true)], args := [d0, d1] })
  (hlaw : ∀ (a0 : VoiceBook) (a1 : (Ar 4 Int)), dU a0 → Fin zL f [Enc.enc a0, Enc.enc a1] (.bool true))
  (H : Type) (enc : TypeId × Value → H) (W : World) (base : Nat) (args : Array Value) (ds gs : List (DataW H)) (before : List MemPlace)
  (hval : ∀ (j : Nat) t v, fn.params[j]? = some t → args[j]? = some v → Value.okWide Tryd.prog W .any base t v)
  (hW : DataW.Whole enc Tryd.prog fn.params.toList s.vars false W args.toList ds gs before) (hw : (DataW.weightsEach Tryd.prog (fn.params.toList ++ s.plain.varTypes Tryd.prog) (ds ++ gs)).all (· ≤ reachBytes) = true) (hL : laidMetH Tryd.prog mc W) :
  Calls Tryd.prog f args W fun e W' => ∃ v, e = .returned v ∧ s.post enc Tryd.prog fn false true false false W args v W' := by
 have hW' := hW
 obtain ⟨p, q, hA, hV, rfl, hfz, hnd⟩ := hW
 rw [hp] at hA hval
 obtain ⟨v0, vs0, d0, ds0, p0, q0, hargs, rfl, rfl, h0, r0⟩ := trodAll_cons hA
 obtain ⟨v1, vs1, d1, ds1, p1, q1, rfl, rfl, rfl, h1, r1⟩ := trodAll_cons r0
 obtain ⟨rfl, rfl, rfl⟩ := trodAll_nil r1
 obtain rfl : args = #[v0, v1] := by cases args; simp_all
 have hw0 : (d0.weights Tryd.prog 25).all (· ≤ reachBytes) = true := Ec (i := 0) hw (by rw [hp]; rfl) rfl
 have hw1 : (d1.weights Tryd.prog 56).all (· ≤ reachBytes) = true := Ec (i := 1) hw (by rw [hp]; rfl) rfl
 obtain ⟨a0, ha0, hf0⟩ := tn r25 Tryd.underlying25 rfl (hval 0 25 v0 rfl rfl) h0 hw0
 obtain ⟨a1, ha1, _⟩ := uN r56 Tryd.underlying56 (hval 1 56 v1 rfl rfl) h1 hw1
 refine (iP (T := zT) mix (qz ▸ hlaw a0 a1 hf0) (aw hL) rfl (fun i d hd => by
  match i, hd with
  | 0, hd => simp only [List.getElem?_cons_zero, Option.some.injEq] at hd; subst hd; exact ha0
  | 1, hd => simp only [List.getElem?_cons_succ, List.getElem?_cons_zero, Option.some.injEq] at hd; subst hd; exact ha1)).mono fun e W' ⟨he, k1, k2, k3, k4, k5, k6⟩ => ?_
 exact ⟨_, he, kc oW hr Tryd.underlying4 (by rw [hp]; exact md) hs hW' (by rw [hfn]) (by rw [hfn]) (by rw [hfn]) k1 k2 k3 k4 k5 k6⟩
theorem nJ : ∀ t ∈ [25, 26], Tryd.prog.readableRec t = true ∧ t < Tryd.prog.types.size := by
 intro t ht
 rcases (show t = 25 ∨ t = 26 by simpa using ht) with rfl | rfl
 ·exact zE
 ·exact AAD
theorem pz {f : Nat} {fn : Func} (hp : fn.params = #[25, 26]) (hr : fn.resultTypes = #[4]) {s : ChangeSpec} (hs : s.vars = []) (hfn : ∀ (H : Type) (d0 d1 : DataW H), s.fn H [d0, d1] = { results := [.lit (.bool true)], args := [d0, d1] })
  (hlaw : ∀ (a0 : VoiceBook) (a1 : (Sl Int)), dU a0 → a1.l.length < 4611686018427387904 → Fin zL f [Enc.enc a0, Enc.enc a1] (.bool true))
  (H : Type) (enc : TypeId × Value → H) (W : World) (base : Nat) (args : Array Value) (ds gs : List (DataW H)) (before : List MemPlace)
  (hval : ∀ (j : Nat) t v, fn.params[j]? = some t → args[j]? = some v → Value.okWide Tryd.prog W .any base t v)
  (hW : DataW.Whole enc Tryd.prog fn.params.toList s.vars false W args.toList ds gs before) (hw : (DataW.weightsEach Tryd.prog (fn.params.toList ++ s.plain.varTypes Tryd.prog) (ds ++ gs)).all (· ≤ reachBytes) = true) (hL : laidMetH Tryd.prog mc W) :
  Calls Tryd.prog f args W fun e W' => ∃ v, e = .returned v ∧ s.post enc Tryd.prog fn false true false false W args v W' := by
 have hW' := hW
 obtain ⟨p, q, hA, hV, rfl, hfz, hnd⟩ := hW
 rw [hp] at hA hval
 obtain ⟨v0, vs0, d0, ds0, p0, q0, hargs, rfl, rfl, h0, r0⟩ := trodAll_cons hA
 obtain ⟨v1, vs1, d1, ds1, p1, q1, rfl, rfl, rfl, h1, r1⟩ := trodAll_cons r0
 obtain ⟨rfl, rfl, rfl⟩ := trodAll_nil r1
 obtain rfl : args = #[v0, v1] := by cases args; simp_all
 have hw0 : (d0.weights Tryd.prog 25).all (· ≤ reachBytes) = true := Ec (i := 0) hw (by rw [hp]; rfl) rfl
 have hw1 : (d1.weights Tryd.prog 26).all (· ≤ reachBytes) = true := Ec (i := 1) hw (by rw [hp]; rfl) rfl
 obtain ⟨a0, ha0, hf0⟩ := tn r25 Tryd.underlying25 rfl (hval 0 25 v0 rfl rfl) h0 hw0
 obtain ⟨a1, ha1, hl1, hm1⟩ := uT r26 Tryd.underlying26 (hval 1 26 v1 rfl rfl) h1 hw1
 refine (iP (T := zT) mix (qz ▸ hlaw a0 a1 hf0 (few hl1)) (aw hL) rfl (fun i d hd => by
  match i, hd with
  | 0, hd => simp only [List.getElem?_cons_zero, Option.some.injEq] at hd; subst hd; exact ha0
  | 1, hd => simp only [List.getElem?_cons_succ, List.getElem?_cons_zero, Option.some.injEq] at hd; subst hd; exact ha1)).mono fun e W' ⟨he, k1, k2, k3, k4, k5, k6⟩ => ?_
 exact ⟨_, he, kc oW hr Tryd.underlying4 (by rw [hp]; exact nJ) hs hW' (by rw [hfn]) (by rw [hfn]) (by rw [hfn]) k1 k2 k3 k4 k5 k6⟩
theorem sg (os : Os) (args : Array Value) : laidMetH zP mc ((World.doorLaid Tryd.prog 600 os).forCall (fun _ _ => 0) ⟨#[], args, []⟩).memory :=
 laidMetH_of_parts3 (fuel := 8) (laidMet_of_run' 8 (by kernel_rfl) (by kernel_rfl)) (by kernel_rfl) (by kernel_rfl)
end Go.Proofs.YtohgomfnigdaoaaDoor
