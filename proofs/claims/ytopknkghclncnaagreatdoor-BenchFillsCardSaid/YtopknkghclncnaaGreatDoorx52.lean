/- A part of the proof. -/
import Derived.Test.YtopknkghclncnaaGreatDoorx46
import Derived.Test.YtopknkghclncnaaGreatDoorx51
import Derived.Test.YtopknkghclncnaaGreatDoorCards
import Derived.Test.YtopknkghclncnaaGreatDoorTie
import Derived.Deep.DeepHandedRow
import Derived.Deep.DeepWitnessRowRef
import Derived.Stop.Joined
set_option linter.all false
namespace Go.Proofs.YtopknkghclncnaaGreatDoor
open Go Go.Lf Go.ChangeShapes Go.WideShapes Go.ChangeAt Go.RowKit
set_option maxRecDepth 100000
theorem own : ownKnob Tryz.prog.godebug = none := by kernel_rfl
theorem uf : laidOutB Tryz.prog = true := by kernel_rfl
theorem mix : zT.P.follows .mixedOrders = true := by kernel_rfl
theorem ut : ∀ t ∈ [28], Tryz.prog.readableRec t = true ∧ t < Tryz.prog.types.size := by
 intro t ht
 obtain rfl : t = 28 := by simpa using ht
 exact ⟨by kernel_rfl, of_decide_eq_true (by kernel_rfl)⟩
theorem xp : ∀ t ∈ [28, 29, 30], Tryz.prog.readableRec t = true ∧ t < Tryz.prog.types.size := by
 intro t ht
 rcases (show t = 28 ∨ t = 29 ∨ t = 30 by simpa using ht) with rfl | rfl | rfl
 ·exact ut 28 (by simp)
 ·exact ⟨by kernel_rfl, of_decide_eq_true (by kernel_rfl)⟩
 ·exact ⟨by kernel_rfl, of_decide_eq_true (by kernel_rfl)⟩
theorem ABP {f : Nat} {fn : Func} (hp : fn.params = #[28]) (hr : fn.resultTypes = #[4]) {s : ChangeSpec} (hs : s.vars = []) (hfn : ∀ (H : Type) (d : DataW H), s.fn H [d] = { results := [.lit (.bool true)], args := [d] })
  (hlaw : ∀ b : BenchBook, Wi b → Fin zL f [Enc.enc b] (.bool true))
  (H : Type) (enc : TypeId × Value → H) (W : World) (base : Nat) (args : Array Value) (ds gs : List (DataW H)) (before : List MemPlace)
  (hval : ∀ (j : Nat) t v, fn.params[j]? = some t → args[j]? = some v → Value.okWide Tryz.prog W .any base t v)
  (hW : DataW.Whole enc Tryz.prog fn.params.toList s.vars false W args.toList ds gs before) (hw : (DataW.weightsEach Tryz.prog (fn.params.toList ++ s.plain.varTypes Tryz.prog) (ds ++ gs)).all (· ≤ reachBytes) = true) (hL : laidMetH Tryz.prog sO W) :
  Calls Tryz.prog f args W fun e W' => ∃ v, e = .returned v ∧ s.post enc Tryz.prog fn false true false false W args v W' := by
 have hW' := hW
 obtain ⟨p, q, hA, hV, rfl, hfz, hnd⟩ := hW
 rw [hp] at hA hval
 obtain ⟨v0, vs0, d0, ds0, p0, q0, hargs, rfl, rfl, h0, r0⟩ := trodAll_cons hA
 obtain ⟨rfl, rfl, rfl⟩ := trodAll_nil r0
 obtain rfl : args = #[v0] := by cases args; simp_all
 have hw0 : (d0.weights Tryz.prog 28).all (· ≤ reachBytes) = true := Em (i := 0) hw (by rw [hp]; rfl) rfl
 obtain ⟨b, hb, hf⟩ := xJ zD Tryz.underlying28 rfl (hval 0 28 v0 rfl rfl) h0 hw0
 refine (ii (T := zT) mix (vE ▸ hlaw b hf) (cg hL) rfl (fun i d hd => by
  match i, hd with
  | 0, hd => simp only [List.getElem?_cons_zero, Option.some.injEq] at hd; subst hd; exact hb)).mono fun e W' ⟨he, k1, k2, k3, k4, k5, k6⟩ => ?_
 exact ⟨_, he, pK uf hr Tryz.underlying4 (by rw [hp]; exact ut) hs hW' (by rw [hfn]) (by rw [hfn]) (by rw [hfn]) k1 k2 k3 k4 k5 k6⟩
theorem ABg {f : Nat} {fn : Func} (hp : fn.params = #[28, 29, 30]) (hr : fn.resultTypes = #[4]) {s : ChangeSpec} (hs : s.vars = []) (hfn : ∀ (H : Type) (d e g : DataW H), s.fn H [d, e, g] = { results := [.lit (.bool true)], args := [d, e, g] })
  (hlaw : ∀ (b : BenchBook) (a : Ar 2 Int) (x : Sl AA), Wi b → x.l.length < 4611686018427387904 → Fin zL f [Enc.enc b, Enc.enc a, Enc.enc x] (.bool true))
  (H : Type) (enc : TypeId × Value → H) (W : World) (base : Nat) (args : Array Value) (ds gs : List (DataW H)) (before : List MemPlace)
  (hval : ∀ (j : Nat) t v, fn.params[j]? = some t → args[j]? = some v → Value.okWide Tryz.prog W .any base t v)
  (hW : DataW.Whole enc Tryz.prog fn.params.toList s.vars false W args.toList ds gs before) (hw : (DataW.weightsEach Tryz.prog (fn.params.toList ++ s.plain.varTypes Tryz.prog) (ds ++ gs)).all (· ≤ reachBytes) = true) (hL : laidMetH Tryz.prog sO W) :
  Calls Tryz.prog f args W fun e W' => ∃ v, e = .returned v ∧ s.post enc Tryz.prog fn false true false false W args v W' := by
 have hW' := hW
 obtain ⟨p, q, hA, hV, rfl, hfz, hnd⟩ := hW
 rw [hp] at hA hval
 obtain ⟨v0, vs0, d0, ds0, p0, q0, hargs, rfl, rfl, h0, r0⟩ := trodAll_cons hA
 obtain ⟨v1, vs1, d1, ds1, p1, q1, rfl, rfl, rfl, h1, r1⟩ := trodAll_cons r0
 obtain ⟨v2, vs2, d2, ds2, p2, q2, rfl, rfl, rfl, h2, r2⟩ := trodAll_cons r1
 obtain ⟨rfl, rfl, rfl⟩ := trodAll_nil r2
 obtain rfl : args = #[v0, v1, v2] := by cases args; simp_all
 have hw0 : (d0.weights Tryz.prog 28).all (· ≤ reachBytes) = true := Em (i := 0) hw (by rw [hp]; rfl) rfl
 have hw1 : (d1.weights Tryz.prog 29).all (· ≤ reachBytes) = true := Em (i := 1) hw (by rw [hp]; rfl) rfl
 have hw2 : (d2.weights Tryz.prog 30).all (· ≤ reachBytes) = true := Em (i := 2) hw (by rw [hp]; rfl) rfl
 obtain ⟨b, hb, hf⟩ := xJ zD Tryz.underlying28 rfl (hval 0 28 v0 rfl rfl) h0 hw0
 obtain ⟨a, ha, _⟩ := xn AA3 Tryz.underlying29 (hval 1 29 v1 rfl rfl) h1 hw1
 obtain ⟨x, hx, hxl, _⟩ := yJ zq Tryz.underlying30 (hval 2 30 v2 rfl rfl) h2 hw2
 refine (ii (T := zT) mix (vE ▸ hlaw b a x hf (few hxl)) (cg hL) rfl (fun i d hd => by
  match i, hd with
  | 0, hd => simp only [List.getElem?_cons_zero, Option.some.injEq] at hd; subst hd; exact hb
  | 1, hd => simp only [List.getElem?_cons_succ, List.getElem?_cons_zero, Option.some.injEq] at hd; subst hd; exact ha
  | 2, hd => simp only [List.getElem?_cons_succ, List.getElem?_cons_zero, Option.some.injEq] at hd; subst hd; exact hx)).mono fun e W' ⟨he, k1, k2, k3, k4, k5, k6⟩ => ?_
 exact ⟨_, he, pK uf hr Tryz.underlying4 (by rw [hp]; exact xp) hs hW' (by rw [hfn]) (by rw [hfn]) (by rw [hfn]) k1 k2 k3 k4 k5 k6⟩
def gJ : Value := .agg #[.slice none 0 0, .int .i64 0, .slice none 0 0, .slice none 0 0, .int .i64 0]
theorem dY (os : Os) (args : Array Value) : laidMetH Tryz.prog sO ((World.doorLaid Tryz.prog 600 os).forCall (fun _ _ => 0) ⟨#[], args, []⟩).memory :=
 laidMetH_of_parts3 (fuel := 8) (laidMet_of_run' 8 (by kernel_rfl) (by kernel_rfl)) (by kernel_rfl) (by kernel_rfl)
end Go.Proofs.YtopknkghclncnaaGreatDoor
