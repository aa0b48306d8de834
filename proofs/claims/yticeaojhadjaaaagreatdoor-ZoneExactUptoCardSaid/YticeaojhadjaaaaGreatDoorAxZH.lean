/- THE LAW ZoneExact: a comparison of an int column without nulls and a constant can be just what it is for one of its ints: a start that fits. -/
import Derived.Test.YticeaojhadjaaaaGreatDoorAxV
import Derived.Test.YticeaojhadjaaaaGreatDoorAxZG
import Derived.Test.YticeaojhadjaaaaGreatDoorCards
import Derived.Test.YticeaojhadjaaaaGreatDoorTie
import Derived.ProofKit
import Derived.OpenShut
import Derived.Deep.DeepHandedRow
import Derived.Lay

section
set_option linter.unusedSimpArgs false
/-! THE LAW ZoneExact: a comparison of an int column without nulls and a constant can be just what it is for one of its ints: a start that fits. -/
set_option autoImplicit false
set_option linter.unusedVariables false
set_option maxRecDepth 100000
namespace Go.Proofs.YticeaojhadjaaaaGreatDoor
open Go.ChangeShapes Go.WideShapes Go.ChangeAt Go.RowKit

theorem xown : ownKnob Tryz.prog.godebug = none := by kernel_rfl

/-- The start that fits: the listed variables as they are laid. -/
noncomputable def xWorld (os : Os) : World := World.laidAll Tryz.prog os Rows.zoneExactUptoRow.laid
theorem xWorld_os (os : Os) : (xWorld os).os = os := World.laidAll_os _ _ _
theorem xMet (os : Os) (args : Array Value) : laidMet Tryz.prog Rows.zoneExactUptoRow.laid ((xWorld os).forCall (fun _ _ => 0) ⟨#[], args, []⟩).memory :=
  laidMet_laidAll _ (by kernel_rfl) (by kernel_rfl)

/-- Four zeros. -/
noncomputable def noInts : Array Value := #[.int .i64 0, .int .u8 0, .int .u8 0, .int .i64 0]
theorem xShaped (os : Os) : ((xWorld os).forCall (fun _ _ => 0) ⟨#[], noInts, []⟩).Shaped Tryz.prog := World.shaped_of_ZipB (by kernel_rfl) (by kernel_rfl)
theorem xFits (os : Os) : Input.okWideB Tryz.prog ((xWorld os).forCall (fun _ _ => 0) ⟨#[], noInts, []⟩) 4 ⟨#[], noInts, []⟩ = true := by kernel_rfl
theorem xReads (os : Os) {H : Type} (enc : TypeId × Value → H) : ∃ places, DataW.whole enc Tryz.prog ((xWorld os).forCall (fun _ _ => 0) ⟨#[], noInts, []⟩).memory Tryz.f4.params.toList Rows.zoneExactSpec.vars false noInts.toList 8 =
    some ([.lit (.int .i64 0), .lit (.int .u8 0), .lit (.int .u8 0), .lit (.int .i64 0)], [], places) := ⟨[], by kernel_rfl⟩
end Go.Proofs.YticeaojhadjaaaaGreatDoor
end
