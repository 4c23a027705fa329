/- Proved: the law returns true for every input, and each argument reads afterwards as it read before (TopHeir or TopWays: the theorem's name tells which). The conditions are those that the given rows lay, and no others. -/
import Derived.Test.YtohgomfnigdaoaaDoorx49
set_option linter.all false
namespace Go.Proofs.YtohgomfnigdaoaaDoor
open Go Go.Lf Go.ChangeShapes Go.WideShapes Go.ChangeAt Go.RowKit
set_option maxRecDepth 100000
theorem vE (os : Os) {H : Type} (enc : TypeId × Value → H) : ∃ places, DataW.whole enc Tryd.prog ((World.doorLaid Tryd.prog 600 os).forCall (fun _ _ => 0) ⟨#[], #[.agg #[.slice none 0 0, .int .i64 0, .slice none 0 0], .agg #[.int .i64 0, .int .i64 0, .int .i64 0, .int .i64 0]], []⟩).memory Tryd.f4.params.toList Rows.topHeirSpec.vars false (#[.agg #[.slice none 0 0, .int .i64 0, .slice none 0 0], .agg #[.int .i64 0, .int .i64 0, .int .i64 0, .int .i64 0]] : Array Value).toList 8 = some ([.agg [.nil, .lit (.int .i64 0), .nil], .agg [.lit (.int .i64 0), .lit (.int .i64 0), .lit (.int .i64 0), .lit (.int .i64 0)]], [], places) :=
 ⟨[], by kernel_rfl⟩
theorem ti (os : Os) (started : os.Started) (H : Type) (enc : TypeId × Value → H) (F : Stop.Interp) :
  ReturnsInHanded {} Tryd.checked os 4 .any ((OpenSpec.ofChange Rows.topHeirSpec).preRow enc Tryd.prog Tryd.f4 Rows.topHeirRow.domain false Rows.topHeirRow.laid) (((OpenSpec.ofChange Rows.topHeirSpec).at F).post enc Tryd.prog Tryd.f4 false true false false) := by
 obtain ⟨places, hx⟩ := vE os enc
 refine returnsInHanded_of_row (C := Tryd.checked) (s := OpenSpec.ofChange Rows.topHeirSpec) own started (by kernel_rfl) Tryd.func4
  (witness_row_atRef (enc := enc) (C := Tryd.checked) false (World.doorLaid Tryd.prog 600 os) #[.agg #[.slice none 0 0, .int .i64 0, .slice none 0 0], .agg #[.int .i64 0, .int .i64 0, .int .i64 0, .int .i64 0]] rfl (by kernel_rfl) (by kernel_rfl) (by kernel_rfl)
   (OpenSpec.preRow_of_cond 8 hx (by kernel_rfl) (fun k hk => by cases hk) (by kernel_rfl) (qi os _))) ?_
 intro W base args ds gs before hval hW _ _ hw hL _ _
 exact ny Tryd.params4 (by kernel_rfl) (s := Rows.topHeirSpec) rfl (fun _ _ _ => rfl) (fun a0 a1 h0 => Pv (ia mg h0 a1)) H enc W base args ds gs before hval hW hw hL
theorem wK : Rows.TopHeirSaid :=
 OpenClaim.holds_of_cond 4 Tryd.f4 rfl rfl rfl rfl rfl rfl rfl ⟨rfl, rfl, rfl, rfl, rfl⟩ rfl rfl rfl rfl rfl (by kernel_rfl) Tryd.func4 (by kernel_rfl)
  (of_decide_eq_true (by kernel_rfl)) (by unfold Func.isWrapper; first | (rw [if_pos (by decide +kernel)]; kernel_rfl) | (rw [if_neg (by decide +kernel)]; exact ⟨rfl, rfl⟩))
  (fun os started H enc _ F => by rw [OpenClaim.pre_eq_preRow]; exact ti os started H enc F)
theorem u6 (f : FuncId) (fn : Func) (hf : Tryd.pinned.checked.prog.funcNamed "decani/decanitop.TopHeir" = some f) (hfn : Tryd.pinned.checked.prog.funcs[f]? = some fn) :
  false = Tryd.pinned.checked.prog.looks [] ∧ ∀ (j : Nat) t, fn.params[j]? = some t → Tryd.pinned.checked.prog.wantsStandIn t = false := by
 obtain rfl : f = 4 := Option.some.inj ((show Tryd.prog.funcNamed "decani/decanitop.TopHeir" = some 4 by kernel_rfl).symm.trans hf) |>.symm
 obtain rfl : fn = Tryd.f4 := (Option.some.inj (Tryd.func4.symm.trans hfn)).symm
 refine ⟨by kernel_rfl, fun j t ht => ?_⟩
 rw [Tryd.params4] at ht
 have hm : t ∈ [25, 56] := by simpa using Array.mem_of_getElem? ht
 have hall : ([25, 56].all fun u => !Tryd.prog.wantsStandIn u) = true := by kernel_rfl
 exact (show Tryd.prog.wantsStandIn t = false by simpa using List.all_eq_true.1 hall t hm)
theorem topHeir_card : Rows.TopHeirCardSaid :=
 Claim7.holds_tied_plain_at .later [] _ _ _ _ wK (fun _ h => by cases h) (by kernel_rfl) (fun _ h => by cases h) topHeir_row_tie rfl ⟨rfl, rfl⟩ (by kernel_rfl) rfl u6 (by kernel_rfl)
#print axioms topHeir_card
end Go.Proofs.YtohgomfnigdaoaaDoor
