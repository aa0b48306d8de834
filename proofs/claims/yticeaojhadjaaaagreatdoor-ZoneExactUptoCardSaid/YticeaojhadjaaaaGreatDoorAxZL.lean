/- THE LAW ZoneExact (cirruslaw07/outright.go): for every low, width, op and n the call returns true: a comparison of an int column without nulls with a constant can be, by zone.Zone, just what it is for one of the ints of the column; and the numbers read afterwards as they read before. CONDITIONS: what is read is of bulk at most 1048576 (the second form of the statement); the variables that the row lists hold what the program's text lays. -/
import Derived.Test.YticeaojhadjaaaaGreatDoorAxZJ
import Derived.Test.YticeaojhadjaaaaGreatDoorAxZK

section
set_option linter.unusedSimpArgs false
/-! THE LAW ZoneExact (cirruslaw07/outright.go): for every low, width, op and n the call returns true: a comparison of an int column without nulls with a constant can be, by zone.Zone, just what it is for one of the ints of the column; and the numbers read afterwards as they read before. CONDITIONS: what is read is of bulk at most 1048576 (the second form of the statement); the variables that the row lists hold what the program's text lays. -/
set_option autoImplicit false
set_option linter.unusedVariables false
set_option maxRecDepth 100000
namespace Go.Proofs.YticeaojhadjaaaaGreatDoor
open Go.ChangeShapes Go.WideShapes Go.ChangeAt Go.RowKit

theorem xnamed : Tryz.pinned.checked.prog.funcNamed Rows.zoneExactUptoRow.func = some 4 := by kernel_rfl
theorem xinst : Tryz.f4.isInstance Tryz.pinned.checked.prog Rows.zoneExactUptoRow.origin Rows.zoneExactUptoRow.targs := of_decide_eq_true (by kernel_rfl)
theorem xwrap : Tryz.f4.isWrapper Tryz.pinned.checked.prog Rows.zoneExactUptoRow.wrapper Rows.zoneExactUptoRow.mainSum := by
  unfold Func.isWrapper
  first | (rw [if_pos (by decide +kernel)]; kernel_rfl) | (rw [if_neg (by decide +kernel)]; exact ⟨rfl, rfl⟩)
theorem xsaid : Rows.ZoneExactUptoSaid :=
  OpenClaim.holds_of_cond 4 Tryz.f4 rfl rfl rfl rfl rfl rfl rfl ⟨rfl, rfl, rfl, rfl, rfl⟩ rfl rfl rfl rfl rfl xnamed Tryz.func4 xfacts xinst xwrap
    (fun os started H enc _ F => by rw [OpenClaim.pre_eq_preRow]; exact xlifted os started H enc F)

theorem xplain (f : FuncId) (fn : Func) (hf : Tryz.pinned.checked.prog.funcNamed "cirrus/cirruslaw07.ZoneExact" = some f) (hfn : Tryz.pinned.checked.prog.funcs[f]? = some fn) :
    true = Tryz.pinned.checked.prog.looks [] ∧ ∀ (j : Nat) t, fn.params[j]? = some t → Tryz.pinned.checked.prog.wantsStandIn t = false := by
  obtain rfl : f = 4 := Option.some.inj ((show Tryz.prog.funcNamed "cirrus/cirruslaw07.ZoneExact" = some 4 by kernel_rfl).symm.trans hf) |>.symm
  obtain rfl : fn = Tryz.f4 := (Option.some.inj (Tryz.func4.symm.trans hfn)).symm
  refine ⟨by kernel_rfl, fun j t ht => ?_⟩
  rw [show Tryz.f4.params = #[3, 5, 5, 3] by kernel_rfl] at ht
  have h : t = 3 ∨ t = 5 ∨ t = 5 ∨ t = 3 := by simpa using Array.mem_of_getElem? ht
  have w3 : Tryz.prog.wantsStandIn 3 = false := by kernel_rfl
  have w5 : Tryz.prog.wantsStandIn 5 = false := by kernel_rfl
  rcases h with rfl | rfl | rfl | rfl
  · exact w3
  · exact w5
  · exact w5
  · exact w3

theorem xbyText : Rows.zoneExactUptoRow.wfByText (Rows.OpenSpec.upto Rows.zoneExactSpec) = true := by kernel_rfl
theorem xmain : Tryz.pinned.checked.prog.mainIs = some (Rows.zoneExactUptoCard.stood.harness.1, Rows.zoneExactUptoCard.stood.harness.2.toList) := by kernel_rfl
theorem xgoes : false = Rows.zoneExactUptoRow.goesBy Tryz.pinned.checked.prog := Go.Ab.goes_false _ rfl
/-- THE CARD. -/
theorem zoneExact_card : Rows.ZoneExactUptoCardSaid :=
  Claim7.holds_tied_plain_at .later [] _ _ _ _ xsaid (fun _ h => by cases h) xbyText (fun _ h => by cases h) zoneExactUpto_row_tie rfl ⟨rfl, rfl⟩ xmain rfl xplain xgoes
#print axioms zoneExact_card
end Go.Proofs.YticeaojhadjaaaaGreatDoor
end
