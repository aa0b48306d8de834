/- THE LAW ZoneChecks (cirruslaw07/law.go): for every head the call returns true (zone.Valid of the program and Valid of the document's reference answer alike where there are at most 200 paths), and the head reads afterwards as it read before. CONDITIONS: what is read is of bulk at most 1048576 (the second form of the statement); the variables that the row lists hold what the program's text lays. -/
import Derived.Test.YticeaojhadjaaaaGreatDoorAbZ
import Derived.Test.YticeaojhadjaaaaGreatDoorAbZA

section
set_option linter.unusedSimpArgs false
/-! THE LAW ZoneChecks (cirruslaw07/law.go): for every head the call returns true (zone.Valid of the program and Valid of the document's reference answer alike where there are at most 200 paths), and the head reads afterwards as it read before. CONDITIONS: what is read is of bulk at most 1048576 (the second form of the statement); the variables that the row lists hold what the program's text lays. -/
set_option autoImplicit false
set_option linter.unusedVariables false
set_option maxRecDepth 100000
namespace Go.Proofs.YticeaojhadjaaaaGreatDoor
open Go.ChangeShapes Go.WideShapes Go.ChangeAt Go.RowKit

theorem z1named : Tryz.pinned.checked.prog.funcNamed Rows.zoneChecksUptoRow.func = some 3 := by kernel_rfl
theorem z1inst : Tryz.f3.isInstance Tryz.pinned.checked.prog Rows.zoneChecksUptoRow.origin Rows.zoneChecksUptoRow.targs := of_decide_eq_true (by kernel_rfl)
theorem z1wrap : Tryz.f3.isWrapper Tryz.pinned.checked.prog Rows.zoneChecksUptoRow.wrapper Rows.zoneChecksUptoRow.mainSum := by
  unfold Func.isWrapper
  first | (rw [if_pos (by decide +kernel)]; kernel_rfl) | (rw [if_neg (by decide +kernel)]; exact ⟨rfl, rfl⟩)
theorem z1said : Rows.ZoneChecksUptoSaid :=
  OpenClaim.holds_of_cond 3 Tryz.f3 rfl rfl rfl rfl rfl rfl rfl ⟨rfl, rfl, rfl, rfl, rfl⟩ rfl rfl rfl rfl rfl z1named Tryz.func3 z1facts z1inst z1wrap
    (fun os started H enc _ F => by rw [OpenClaim.pre_eq_preRow]; exact z1lifted os started H enc F)

theorem z1plain (f : FuncId) (fn : Func) (hf : Tryz.pinned.checked.prog.funcNamed "cirrus/cirruslaw07.ZoneChecks" = some f) (hfn : Tryz.pinned.checked.prog.funcs[f]? = some fn) :
    true = Tryz.pinned.checked.prog.looks [] ∧ ∀ (j : Nat) t, fn.params[j]? = some t → Tryz.pinned.checked.prog.wantsStandIn t = false := by
  obtain rfl : f = 3 := Option.some.inj ((show Tryz.prog.funcNamed "cirrus/cirruslaw07.ZoneChecks" = some 3 by kernel_rfl).symm.trans hf) |>.symm
  obtain rfl : fn = Tryz.f3 := (Option.some.inj (Tryz.func3.symm.trans hfn)).symm
  refine ⟨by kernel_rfl, fun j t ht => ?_⟩
  rw [show Tryz.f3.params = #[26] by kernel_rfl] at ht
  obtain rfl : t = 26 := by simpa using Array.mem_of_getElem? ht
  exact (show Tryz.prog.wantsStandIn 26 = false by kernel_rfl)

theorem z1byText : Rows.zoneChecksUptoRow.wfByText (Rows.OpenSpec.upto Rows.zoneChecksSpec) = true := by kernel_rfl
theorem z1main : Tryz.pinned.checked.prog.mainIs = some (Rows.zoneChecksUptoCard.stood.harness.1, Rows.zoneChecksUptoCard.stood.harness.2.toList) := by kernel_rfl
theorem z1goes : false = Rows.zoneChecksUptoRow.goesBy Tryz.pinned.checked.prog := Go.Ab.goes_false _ rfl
/-- THE CARD. -/
theorem zoneChecks_card : Rows.ZoneChecksUptoCardSaid :=
  Claim7.holds_tied_plain_at .later [] _ _ _ _ z1said (fun _ h => by cases h) z1byText (fun _ h => by cases h) zoneChecksUpto_row_tie rfl ⟨rfl, rfl⟩ z1main rfl z1plain z1goes
#print axioms zoneChecks_card
end Go.Proofs.YticeaojhadjaaaaGreatDoor
end
