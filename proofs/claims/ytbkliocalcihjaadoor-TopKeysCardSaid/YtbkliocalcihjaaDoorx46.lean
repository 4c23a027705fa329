/- A part of the proof. -/
import Derived.Test.YtbkliocalcihjaaDoorx42
import Derived.Test.YtbkliocalcihjaaDoorx43
import Derived.Test.YtbkliocalcihjaaDoorx44
import Derived.Test.YtbkliocalcihjaaDoorx45
import Derived.Test.YtbkliocalcihjaaDoorCards
import Derived.Test.YtbkliocalcihjaaDoorTie
import Derived.Deep.DeepHandedRow
import Derived.Deep.DeepWitnessRowRef
import Derived.Stop.Joined
set_option linter.all false
namespace Go.Proofs.YtbkliocalcihjaaDoor
open Go Go.Lf Go.ChangeShapes Go.WideShapes Go.ChangeAt Go.RowKit
set_option maxRecDepth 100000
theorem own : ownKnob Tryd.prog.godebug = none := by kernel_rfl
theorem ui : laidOutB Tryd.prog = true := by kernel_rfl
theorem mix : zT.P.follows .mixedOrders = true := by kernel_rfl
theorem zK : Tryd.prog.readableRec 25 = true ∧ 25 < Tryd.prog.types.size := ⟨by kernel_rfl, of_decide_eq_true (by kernel_rfl)⟩
theorem za : Tryd.prog.readableRec 26 = true ∧ 26 < Tryd.prog.types.size := ⟨by kernel_rfl, of_decide_eq_true (by kernel_rfl)⟩
theorem zO : Tryd.prog.readableRec 27 = true ∧ 27 < Tryd.prog.types.size := ⟨by kernel_rfl, of_decide_eq_true (by kernel_rfl)⟩
theorem b7 : ∀ t ∈ [25, 26, 27], Tryd.prog.readableRec t = true ∧ t < Tryd.prog.types.size := by
 intro t ht
 rcases (show t = 25 ∨ t = 26 ∨ t = 27 by simpa using ht) with rfl | rfl | rfl
 ·exact zK
 ·exact za
 ·exact zO
theorem dx {f : Nat} {fn : Func} (hp : fn.params = #[25, 26, 27]) (hr : fn.resultTypes = #[4]) {s : ChangeSpec} (hs : s.vars = []) (hfn : ∀ (H : Type) (d0 d1 d2 : DataW H), s.fn H [d0, d1, d2] = { results := [.lit (.bool true)], args := [d0, d1, d2] })
  (hlaw : ∀ (a0 : VoiceBook) (a1 : (Sl AC)) (a2 : (Ar 3 Int)), Wz a0 → a1.l.length < 4611686018427387904 → zj zL f [Enc.enc a0, Enc.enc a1, Enc.enc a2] (.bool true))
  (H : Type) (enc : TypeId × Value → H) (W : World) (base : Nat) (args : Array Value) (ds gs : List (DataW H)) (before : List MemPlace)
  (hval : ∀ (j : Nat) t v, fn.params[j]? = some t → args[j]? = some v → Value.okWide Tryd.prog W .any base t v)
  (hW : DataW.Whole enc Tryd.prog fn.params.toList s.vars false W args.toList ds gs before) (hw : (DataW.weightsEach Tryd.prog (fn.params.toList ++ s.plain.varTypes Tryd.prog) (ds ++ gs)).all (· ≤ reachBytes) = true) (hL : laidMetH Tryd.prog nX W) :
  Calls Tryd.prog f args W fun e W' => ∃ v, e = .returned v ∧ s.post enc Tryd.prog fn false true false false W args v W' := by
 have hW' := hW
 obtain ⟨p, q, hA, hV, rfl, hfz, hnd⟩ := hW
 rw [hp] at hA hval
 obtain ⟨v0, vs0, d0, ds0, p0, q0, hargs, rfl, rfl, h0, r0⟩ := trodAll_cons hA
 obtain ⟨v1, vs1, d1, ds1, p1, q1, rfl, rfl, rfl, h1, r1⟩ := trodAll_cons r0
 obtain ⟨v2, vs2, d2, ds2, p2, q2, rfl, rfl, rfl, h2, r2⟩ := trodAll_cons r1
 obtain ⟨rfl, rfl, rfl⟩ := trodAll_nil r2
 obtain rfl : args = #[v0, v1, v2] := by cases args; simp_all
 have hw0 : (d0.weights Tryd.prog 25).all (· ≤ reachBytes) = true := E2 (i := 0) hw (by rw [hp]; rfl) rfl
 have hw1 : (d1.weights Tryd.prog 26).all (· ≤ reachBytes) = true := E2 (i := 1) hw (by rw [hp]; rfl) rfl
 have hw2 : (d2.weights Tryd.prog 27).all (· ≤ reachBytes) = true := E2 (i := 2) hw (by rw [hp]; rfl) rfl
 obtain ⟨a0, ha0, hf0⟩ := xC r25 Tryd.underlying25 rfl (hval 0 25 v0 rfl rfl) h0 hw0
 obtain ⟨a1, ha1, hl1, hm1⟩ := uB zo Tryd.underlying26 (hval 1 26 v1 rfl rfl) h1 hw1
 obtain ⟨a2, ha2, _⟩ := ul zq Tryd.underlying27 (hval 2 27 v2 rfl rfl) h2 hw2
 refine (pZ (T := zT) mix (tn ▸ hlaw a0 a1 a2 hf0 (few hl1)) (mT hL) rfl (fun i d hd => by
  match i, hd with
  | 0, hd => simp only [List.getElem?_cons_zero, Option.some.injEq] at hd; subst hd; exact ha0
  | 1, hd => simp only [List.getElem?_cons_succ, List.getElem?_cons_zero, Option.some.injEq] at hd; subst hd; exact ha1
  | 2, hd => simp only [List.getElem?_cons_succ, List.getElem?_cons_zero, Option.some.injEq] at hd; subst hd; exact ha2)).mono fun e W' ⟨he, k1, k2, k3, k4, k5, k6⟩ => ?_
 exact ⟨_, he, rQ ui hr Tryd.underlying4 (by rw [hp]; exact b7) hs hW' (by rw [hfn]) (by rw [hfn]) (by rw [hfn]) k1 k2 k3 k4 k5 k6⟩
theorem qz (os : Os) (args : Array Value) : laidMetH zP nX ((World.doorLaid Tryd.prog 600 os).forCall (fun _ _ => 0) ⟨#[], args, []⟩).memory :=
 laidMetH_of_parts3 (fuel := 8) (laidMet_of_run' 8 (by kernel_rfl) (by kernel_rfl)) (by kernel_rfl) (by kernel_rfl)
end Go.Proofs.YtbkliocalcihjaaDoor
