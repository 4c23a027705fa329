/- Proved: TopKeys returns true for every input, and each argument reads afterwards as it read before. The conditions are those that the given row lays, and no others. -/
import Derived.Test.YtbkliocalcihjaaDoorx46
set_option linter.all false
namespace Go.Proofs.YtbkliocalcihjaaDoor
open Go Go.Lf Go.ChangeShapes Go.WideShapes Go.ChangeAt Go.RowKit
set_option maxRecDepth 100000
theorem vg (os : Os) {H : Type} (enc : TypeId × Value → H) : ∃ places, DataW.whole enc Tryd.prog ((World.doorLaid Tryd.prog 600 os).forCall (fun _ _ => 0) ⟨#[], #[.agg #[.slice none 0 0, .int .i64 0, .slice none 0 0], .slice none 0 0, .agg #[.int .i64 0, .int .i64 0, .int .i64 0]], []⟩).memory Tryd.f3.params.toList Rows.topKeysSpec.vars false (#[.agg #[.slice none 0 0, .int .i64 0, .slice none 0 0], .slice none 0 0, .agg #[.int .i64 0, .int .i64 0, .int .i64 0]] : Array Value).toList 8 = some ([.agg [.nil, .lit (.int .i64 0), .nil], .nil, .agg [.lit (.int .i64 0), .lit (.int .i64 0), .lit (.int .i64 0)]], [], places) :=
 ⟨[], by kernel_rfl⟩
theorem te (os : Os) (started : os.Started) (H : Type) (enc : TypeId × Value → H) (F : Stop.Interp) :
  ReturnsInHanded {} Tryd.checked os 3 .any ((OpenSpec.ofChange Rows.topKeysSpec).preRow enc Tryd.prog Tryd.f3 Rows.topKeysRow.domain false Rows.topKeysRow.laid) (((OpenSpec.ofChange Rows.topKeysSpec).at F).post enc Tryd.prog Tryd.f3 false true false false) := by
 obtain ⟨places, hx⟩ := vg os enc
 refine returnsInHanded_of_row (C := Tryd.checked) (s := OpenSpec.ofChange Rows.topKeysSpec) own started (by kernel_rfl) Tryd.func3
  (witness_row_atRef (enc := enc) (C := Tryd.checked) false (World.doorLaid Tryd.prog 600 os) #[.agg #[.slice none 0 0, .int .i64 0, .slice none 0 0], .slice none 0 0, .agg #[.int .i64 0, .int .i64 0, .int .i64 0]] rfl (by kernel_rfl) (by kernel_rfl) (by kernel_rfl)
   (OpenSpec.preRow_of_cond 8 hx (by kernel_rfl) (fun k hk => by cases hk) (by kernel_rfl) (qz os _))) ?_
 intro W base args ds gs before hval hW _ _ hw hL _ _
 exact dx Tryd.params3 (by kernel_rfl) (s := Rows.topKeysSpec) rfl (fun _ _ _ _ => rfl) (fun a0 a1 a2 h0 h1 => Nv (iC h0 a1 a2)) H enc W base args ds gs before hval hW hw hL
theorem yF : Rows.TopKeysSaid :=
 OpenClaim.holds_of_cond 3 Tryd.f3 rfl rfl rfl rfl rfl rfl rfl ⟨rfl, rfl, rfl, rfl, rfl⟩ rfl rfl rfl rfl rfl (by kernel_rfl) Tryd.func3 (by kernel_rfl)
  (of_decide_eq_true (by kernel_rfl)) (by unfold Func.isWrapper; first | (rw [if_pos (by decide +kernel)]; kernel_rfl) | (rw [if_neg (by decide +kernel)]; exact ⟨rfl, rfl⟩))
  (fun os started H enc _ F => by rw [OpenClaim.pre_eq_preRow]; exact te os started H enc F)
theorem vj (f : FuncId) (fn : Func) (hf : Tryd.pinned.checked.prog.funcNamed "decani/decanitop.TopKeys" = some f) (hfn : Tryd.pinned.checked.prog.funcs[f]? = some fn) :
  false = Tryd.pinned.checked.prog.looks [] ∧ ∀ (j : Nat) t, fn.params[j]? = some t → Tryd.pinned.checked.prog.wantsStandIn t = false := by
 obtain rfl : f = 3 := Option.some.inj ((show Tryd.prog.funcNamed "decani/decanitop.TopKeys" = some 3 by kernel_rfl).symm.trans hf) |>.symm
 obtain rfl : fn = Tryd.f3 := (Option.some.inj (Tryd.func3.symm.trans hfn)).symm
 refine ⟨by kernel_rfl, fun j t ht => ?_⟩
 rw [Tryd.params3] at ht
 have hm : t ∈ [25, 26, 27] := by simpa using Array.mem_of_getElem? ht
 have hall : ([25, 26, 27].all fun u => !Tryd.prog.wantsStandIn u) = true := by kernel_rfl
 exact (show Tryd.prog.wantsStandIn t = false by simpa using List.all_eq_true.1 hall t hm)
theorem topKeys_card : Rows.TopKeysCardSaid :=
 Claim7.holds_tied_plain_at .later [] _ _ _ _ yF (fun _ h => by cases h) (by kernel_rfl) (fun _ h => by cases h) topKeys_row_tie rfl ⟨rfl, rfl⟩ (by kernel_rfl) rfl vj (by kernel_rfl)
#print axioms topKeys_card
end Go.Proofs.YtbkliocalcihjaaDoor
