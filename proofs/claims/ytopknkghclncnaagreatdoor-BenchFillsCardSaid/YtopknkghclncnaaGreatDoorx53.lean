/- The statements BenchCans, BenchFills and BenchChanges (Check, Can, Lack, May; Ways, Fill, Seats; Change, Need of the layer of benches return what the document's reference returns) hold of the given program, as their cards say. Conditions: none but the statements' own guards. -/
import Derived.Test.YtopknkghclncnaaGreatDoorx52
set_option linter.all false
namespace Go.Proofs.YtopknkghclncnaaGreatDoor
open Go Go.Lf Go.ChangeShapes Go.WideShapes Go.ChangeAt Go.RowKit
set_option maxRecDepth 100000
theorem AAK (os : Os) {H : Type} (enc : TypeId × Value → H) : ∃ places, DataW.whole enc Tryz.prog ((World.doorLaid Tryz.prog 600 os).forCall (fun _ _ => 0) ⟨#[], #[gJ, .agg #[.int .i64 0, .int .i64 0], .slice none 0 0], []⟩).memory Tryz.f3.params.toList Rows.benchCansSpec.vars false (#[gJ, .agg #[.int .i64 0, .int .i64 0], .slice none 0 0] : Array Value).toList 8 = some ([.agg [.agg [.nil, .lit (.int .i64 0), .nil], .nil, .lit (.int .i64 0)], .agg [.lit (.int .i64 0), .lit (.int .i64 0)], .nil], [], places) :=
 ⟨[], by kernel_rfl⟩
theorem yY (os : Os) (started : os.Started) (H : Type) (enc : TypeId × Value → H) (F : Stop.Interp) :
  ReturnsInHanded {} Tryz.checked os 3 .any ((OpenSpec.ofChange Rows.benchCansSpec).preRow enc Tryz.prog Tryz.f3 Rows.benchCansRow.domain false Rows.benchCansRow.laid) (((OpenSpec.ofChange Rows.benchCansSpec).at F).post enc Tryz.prog Tryz.f3 false true false false) := by
 obtain ⟨places, hx⟩ := AAK os enc
 refine returnsInHanded_of_row (C := Tryz.checked) (s := OpenSpec.ofChange Rows.benchCansSpec) own started (by kernel_rfl) Tryz.func3
  (witness_row_atRef (enc := enc) (C := Tryz.checked) false (World.doorLaid Tryz.prog 600 os) #[gJ, .agg #[.int .i64 0, .int .i64 0], .slice none 0 0] rfl (by kernel_rfl) (by kernel_rfl) (by kernel_rfl)
   (OpenSpec.preRow_of_cond 8 hx (by kernel_rfl) (fun k hk => by cases hk) (by kernel_rfl) (dY os _))) ?_
 intro W base args ds gs before hval hW _ _ hw hL _ _
 exact ABg (f := 3) Tryz.params3 (by kernel_rfl) (s := Rows.benchCansSpec) rfl (fun _ _ _ _ => rfl) (fun b a x hf hx => Ku (vC hf a x hx)) H enc W base args ds gs before hval hW hw hL
theorem AAr : Rows.BenchCansSaid :=
 OpenClaim.holds_of_cond 3 Tryz.f3 rfl rfl rfl rfl rfl rfl rfl ⟨rfl, rfl, rfl, rfl, rfl⟩ rfl rfl rfl rfl rfl (by kernel_rfl) Tryz.func3 (by kernel_rfl)
  (of_decide_eq_true (by kernel_rfl)) (by unfold Func.isWrapper; first | (rw [if_pos (by decide +kernel)]; kernel_rfl) | (rw [if_neg (by decide +kernel)]; exact ⟨rfl, rfl⟩))
  (fun os started H enc _ F => by rw [OpenClaim.pre_eq_preRow]; exact yY os started H enc F)
theorem zY (f : FuncId) (fn : Func) (hf : Tryz.pinned.checked.prog.funcNamed "decani/decanilaw07.BenchCans" = some f) (hfn : Tryz.pinned.checked.prog.funcs[f]? = some fn) :
  false = Tryz.pinned.checked.prog.looks [] ∧ ∀ (j : Nat) t, fn.params[j]? = some t → Tryz.pinned.checked.prog.wantsStandIn t = false := by
 obtain rfl : f = 3 := Option.some.inj ((show Tryz.prog.funcNamed "decani/decanilaw07.BenchCans" = some 3 by kernel_rfl).symm.trans hf) |>.symm
 obtain rfl : fn = Tryz.f3 := (Option.some.inj (Tryz.func3.symm.trans hfn)).symm
 refine ⟨by kernel_rfl, fun j t ht => ?_⟩
 rw [Tryz.params3] at ht
 have hm : t ∈ [28, 29, 30] := by simpa using Array.mem_of_getElem? ht
 have hall : ([28, 29, 30].all fun u => !Tryz.prog.wantsStandIn u) = true := by kernel_rfl
 exact (show Tryz.prog.wantsStandIn t = false by simpa using List.all_eq_true.1 hall t hm)
theorem benchCans_card : Rows.BenchCansCardSaid :=
 Claim7.holds_tied_plain_at .later [] _ _ _ _ AAr (fun _ h => by cases h) (by kernel_rfl) (fun _ h => by cases h) benchCans_row_tie rfl ⟨rfl, rfl⟩ (by kernel_rfl) rfl zY (by kernel_rfl)
#print axioms benchCans_card
theorem AAP (os : Os) {H : Type} (enc : TypeId × Value → H) : ∃ places, DataW.whole enc Tryz.prog ((World.doorLaid Tryz.prog 600 os).forCall (fun _ _ => 0) ⟨#[], #[gJ], []⟩).memory Tryz.f4.params.toList Rows.benchFillsSpec.vars false (#[gJ] : Array Value).toList 8 = some ([.agg [.agg [.nil, .lit (.int .i64 0), .nil], .nil, .lit (.int .i64 0)]], [], places) :=
 ⟨[], by kernel_rfl⟩
theorem yR (os : Os) (started : os.Started) (H : Type) (enc : TypeId × Value → H) (F : Stop.Interp) :
  ReturnsInHanded {} Tryz.checked os 4 .any ((OpenSpec.ofChange Rows.benchFillsSpec).preRow enc Tryz.prog Tryz.f4 Rows.benchFillsRow.domain false Rows.benchFillsRow.laid) (((OpenSpec.ofChange Rows.benchFillsSpec).at F).post enc Tryz.prog Tryz.f4 false true false false) := by
 obtain ⟨places, hx⟩ := AAP os enc
 refine returnsInHanded_of_row (C := Tryz.checked) (s := OpenSpec.ofChange Rows.benchFillsSpec) own started (by kernel_rfl) Tryz.func4
  (witness_row_atRef (enc := enc) (C := Tryz.checked) false (World.doorLaid Tryz.prog 600 os) #[gJ] rfl (by kernel_rfl) (by kernel_rfl) (by kernel_rfl)
   (OpenSpec.preRow_of_cond 8 hx (by kernel_rfl) (fun k hk => by cases hk) (by kernel_rfl) (dY os _))) ?_
 intro W base args ds gs before hval hW _ _ hw hL _ _
 exact ABP (f := 4) Tryz.params4 (by kernel_rfl) (s := Rows.benchFillsSpec) rfl (fun _ _ => rfl) (fun b hf => Jy (ua hf)) H enc W base args ds gs before hval hW hw hL
theorem AAs : Rows.BenchFillsSaid :=
 OpenClaim.holds_of_cond 4 Tryz.f4 rfl rfl rfl rfl rfl rfl rfl ⟨rfl, rfl, rfl, rfl, rfl⟩ rfl rfl rfl rfl rfl (by kernel_rfl) Tryz.func4 (by kernel_rfl)
  (of_decide_eq_true (by kernel_rfl)) (by unfold Func.isWrapper; first | (rw [if_pos (by decide +kernel)]; kernel_rfl) | (rw [if_neg (by decide +kernel)]; exact ⟨rfl, rfl⟩))
  (fun os started H enc _ F => by rw [OpenClaim.pre_eq_preRow]; exact yR os started H enc F)
theorem AAG (f : FuncId) (fn : Func) (hf : Tryz.pinned.checked.prog.funcNamed "decani/decanilaw07.BenchFills" = some f) (hfn : Tryz.pinned.checked.prog.funcs[f]? = some fn) :
  false = Tryz.pinned.checked.prog.looks [] ∧ ∀ (j : Nat) t, fn.params[j]? = some t → Tryz.pinned.checked.prog.wantsStandIn t = false := by
 obtain rfl : f = 4 := Option.some.inj ((show Tryz.prog.funcNamed "decani/decanilaw07.BenchFills" = some 4 by kernel_rfl).symm.trans hf) |>.symm
 obtain rfl : fn = Tryz.f4 := (Option.some.inj (Tryz.func4.symm.trans hfn)).symm
 refine ⟨by kernel_rfl, fun j t ht => ?_⟩
 rw [Tryz.params4] at ht
 have hm : t ∈ [28] := by simpa using Array.mem_of_getElem? ht
 have hall : ([28].all fun u => !Tryz.prog.wantsStandIn u) = true := by kernel_rfl
 exact (show Tryz.prog.wantsStandIn t = false by simpa using List.all_eq_true.1 hall t hm)
theorem benchFills_card : Rows.BenchFillsCardSaid :=
 Claim7.holds_tied_plain_at .later [] _ _ _ _ AAs (fun _ h => by cases h) (by kernel_rfl) (fun _ h => by cases h) benchFills_row_tie rfl ⟨rfl, rfl⟩ (by kernel_rfl) rfl AAG (by kernel_rfl)
#print axioms benchFills_card
theorem AAB (os : Os) {H : Type} (enc : TypeId × Value → H) : ∃ places, DataW.whole enc Tryz.prog ((World.doorLaid Tryz.prog 600 os).forCall (fun _ _ => 0) ⟨#[], #[gJ], []⟩).memory Tryz.f5.params.toList Rows.benchChangesSpec.vars false (#[gJ] : Array Value).toList 8 = some ([.agg [.agg [.nil, .lit (.int .i64 0), .nil], .nil, .lit (.int .i64 0)]], [], places) :=
 ⟨[], by kernel_rfl⟩
theorem yS (os : Os) (started : os.Started) (H : Type) (enc : TypeId × Value → H) (F : Stop.Interp) :
  ReturnsInHanded {} Tryz.checked os 5 .any ((OpenSpec.ofChange Rows.benchChangesSpec).preRow enc Tryz.prog Tryz.f5 Rows.benchChangesRow.domain false Rows.benchChangesRow.laid) (((OpenSpec.ofChange Rows.benchChangesSpec).at F).post enc Tryz.prog Tryz.f5 false true false false) := by
 obtain ⟨places, hx⟩ := AAB os enc
 refine returnsInHanded_of_row (C := Tryz.checked) (s := OpenSpec.ofChange Rows.benchChangesSpec) own started (by kernel_rfl) Tryz.func5
  (witness_row_atRef (enc := enc) (C := Tryz.checked) false (World.doorLaid Tryz.prog 600 os) #[gJ] rfl (by kernel_rfl) (by kernel_rfl) (by kernel_rfl)
   (OpenSpec.preRow_of_cond 8 hx (by kernel_rfl) (fun k hk => by cases hk) (by kernel_rfl) (dY os _))) ?_
 intro W base args ds gs before hval hW _ _ hw hL _ _
 exact ABP (f := 5) Tryz.params5 (by kernel_rfl) (s := Rows.benchChangesSpec) rfl (fun _ _ => rfl) (fun b hf => I0 (mD hf)) H enc W base args ds gs before hval hW hw hL
theorem ABB : Rows.BenchChangesSaid :=
 OpenClaim.holds_of_cond 5 Tryz.f5 rfl rfl rfl rfl rfl rfl rfl ⟨rfl, rfl, rfl, rfl, rfl⟩ rfl rfl rfl rfl rfl (by kernel_rfl) Tryz.func5 (by kernel_rfl)
  (of_decide_eq_true (by kernel_rfl)) (by unfold Func.isWrapper; first | (rw [if_pos (by decide +kernel)]; kernel_rfl) | (rw [if_neg (by decide +kernel)]; exact ⟨rfl, rfl⟩))
  (fun os started H enc _ F => by rw [OpenClaim.pre_eq_preRow]; exact yS os started H enc F)
theorem AAJ (f : FuncId) (fn : Func) (hf : Tryz.pinned.checked.prog.funcNamed "decani/decanilaw07.BenchChanges" = some f) (hfn : Tryz.pinned.checked.prog.funcs[f]? = some fn) :
  false = Tryz.pinned.checked.prog.looks [] ∧ ∀ (j : Nat) t, fn.params[j]? = some t → Tryz.pinned.checked.prog.wantsStandIn t = false := by
 obtain rfl : f = 5 := Option.some.inj ((show Tryz.prog.funcNamed "decani/decanilaw07.BenchChanges" = some 5 by kernel_rfl).symm.trans hf) |>.symm
 obtain rfl : fn = Tryz.f5 := (Option.some.inj (Tryz.func5.symm.trans hfn)).symm
 refine ⟨by kernel_rfl, fun j t ht => ?_⟩
 rw [Tryz.params5] at ht
 have hm : t ∈ [28] := by simpa using Array.mem_of_getElem? ht
 have hall : ([28].all fun u => !Tryz.prog.wantsStandIn u) = true := by kernel_rfl
 exact (show Tryz.prog.wantsStandIn t = false by simpa using List.all_eq_true.1 hall t hm)
theorem benchChanges_card : Rows.BenchChangesCardSaid :=
 Claim7.holds_tied_plain_at .later [] _ _ _ _ ABB (fun _ h => by cases h) (by kernel_rfl) (fun _ h => by cases h) benchChanges_row_tie rfl ⟨rfl, rfl⟩ (by kernel_rfl) rfl AAJ (by kernel_rfl)
#print axioms benchChanges_card
end Go.Proofs.YtopknkghclncnaaGreatDoor
