/- Proved: the law returns true for every input, and each argument reads afterwards as it read before (one of BenchRules, BenchTrue, BenchFill, BenchChange, BenchLack: the theorem's name tells which). The conditions are those that the given rows lay, and no others. -/
import Derived.Test.YtdjddljglkeefaaDoorx51
set_option linter.all false
namespace Go.Proofs.YtdjddljglkeefaaDoor
open Go Go.Lf Go.ChangeShapes Go.WideShapes Go.ChangeAt Go.RowKit
set_option maxRecDepth 100000
theorem wz (os : Os) {H : Type} (enc : TypeId × Value → H) : ∃ places, DataW.whole enc Tryd.prog ((World.doorLaid Tryd.prog 600 os).forCall (fun _ _ => 0) ⟨#[], #[.agg #[.slice none 0 0, .int .i64 0, .slice none 0 0, .slice none 0 0, .int .i64 0], .int .i64 0], []⟩).memory Tryd.f7.params.toList Rows.benchLackSpec.vars false (#[.agg #[.slice none 0 0, .int .i64 0, .slice none 0 0, .slice none 0 0, .int .i64 0], .int .i64 0] : Array Value).toList 8 = some ([.agg [.agg [.nil, .lit (.int .i64 0), .nil], .nil, .lit (.int .i64 0)], .lit (.int .i64 0)], [], places) :=
 ⟨[], by kernel_rfl⟩
theorem ue (os : Os) (started : os.Started) (H : Type) (enc : TypeId × Value → H) (F : Stop.Interp) :
  ReturnsInHanded {} Tryd.checked os 7 .any ((OpenSpec.ofChange Rows.benchLackSpec).preRow enc Tryd.prog Tryd.f7 Rows.benchLackRow.domain false Rows.benchLackRow.laid) (((OpenSpec.ofChange Rows.benchLackSpec).at F).post enc Tryd.prog Tryd.f7 false true false false) := by
 obtain ⟨places, hx⟩ := wz os enc
 refine returnsInHanded_of_row (C := Tryd.checked) (s := OpenSpec.ofChange Rows.benchLackSpec) own started (by kernel_rfl) Tryd.func7
  (witness_row_atRef (enc := enc) (C := Tryd.checked) false (World.doorLaid Tryd.prog 600 os) #[.agg #[.slice none 0 0, .int .i64 0, .slice none 0 0, .slice none 0 0, .int .i64 0], .int .i64 0] rfl (by kernel_rfl) (by kernel_rfl) (by kernel_rfl)
   (OpenSpec.preRow_of_cond 8 hx (by kernel_rfl) (fun k hk => by cases hk) (by kernel_rfl) (RZ os _))) ?_
 intro W base args ds gs before hval hW _ _ hw hL _ _
 exact sZ Tryd.params7 (by kernel_rfl) (s := Rows.benchLackSpec) rfl (fun _ _ _ => rfl) (fun a0 a1 h0 => KF (b9 h0 a1)) H enc W base args ds gs before hval hW hw hL
theorem yJ : Rows.BenchLackSaid :=
 OpenClaim.holds_of_cond 7 Tryd.f7 rfl rfl rfl rfl rfl rfl rfl ⟨rfl, rfl, rfl, rfl, rfl⟩ rfl rfl rfl rfl rfl (by kernel_rfl) Tryd.func7 (by kernel_rfl)
  (of_decide_eq_true (by kernel_rfl)) (by unfold Func.isWrapper; first | (rw [if_pos (by decide +kernel)]; kernel_rfl) | (rw [if_neg (by decide +kernel)]; exact ⟨rfl, rfl⟩))
  (fun os started H enc _ F => by rw [OpenClaim.pre_eq_preRow]; exact ue os started H enc F)
theorem vz (f : FuncId) (fn : Func) (hf : Tryd.pinned.checked.prog.funcNamed "decani/decanilaw07.BenchLack" = some f) (hfn : Tryd.pinned.checked.prog.funcs[f]? = some fn) :
  false = Tryd.pinned.checked.prog.looks [] ∧ ∀ (j : Nat) t, fn.params[j]? = some t → Tryd.pinned.checked.prog.wantsStandIn t = false := by
 obtain rfl : f = 7 := Option.some.inj ((show Tryd.prog.funcNamed "decani/decanilaw07.BenchLack" = some 7 by kernel_rfl).symm.trans hf) |>.symm
 obtain rfl : fn = Tryd.f7 := (Option.some.inj (Tryd.func7.symm.trans hfn)).symm
 refine ⟨by kernel_rfl, fun j t ht => ?_⟩
 rw [Tryd.params7] at ht
 have hm : t ∈ [28, 3] := by simpa using Array.mem_of_getElem? ht
 have hall : ([28, 3].all fun u => !Tryd.prog.wantsStandIn u) = true := by kernel_rfl
 exact (show Tryd.prog.wantsStandIn t = false by simpa using List.all_eq_true.1 hall t hm)
theorem benchLack_card : Rows.BenchLackCardSaid :=
 Claim7.holds_tied_plain_at .later [] _ _ _ _ yJ (fun _ h => by cases h) (by kernel_rfl) (fun _ h => by cases h) benchLack_row_tie rfl ⟨rfl, rfl⟩ (by kernel_rfl) rfl vz (by kernel_rfl)
#print axioms benchLack_card
end Go.Proofs.YtdjddljglkeefaaDoor
