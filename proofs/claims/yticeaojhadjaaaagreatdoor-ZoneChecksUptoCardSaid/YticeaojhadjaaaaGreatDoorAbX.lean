/- THE LAW ZoneChecks: Valid of a head is as the chapter says: the card over the bounded inputs. -/
import Derived.Test.YticeaojhadjaaaaGreatDoorAbV
import Derived.Test.YticeaojhadjaaaaGreatDoorAbW
import Derived.Test.YticeaojhadjaaaaGreatDoorCards
import Derived.Test.YticeaojhadjaaaaGreatDoorTie
import Derived.ProofKit
import Derived.OpenShut
import Derived.Deep.DeepHandedRow
import Derived.Lay

section
set_option linter.unusedSimpArgs false
/-! THE LAW ZoneChecks: Valid of a head is as the chapter says: the card over the bounded inputs. -/
set_option autoImplicit false
set_option linter.unusedVariables false
set_option maxRecDepth 100000
namespace Go.Proofs.YticeaojhadjaaaaGreatDoor
open Go.ChangeShapes Go.WideShapes Go.ChangeAt Go.RowKit

theorem zown : ownKnob Tryz.prog.godebug = none := by kernel_rfl

/-- The start that fits: the listed variables as they are laid. -/
noncomputable def zWorld (os : Os) : World := World.laidAll Tryz.prog os Rows.zoneChecksUptoRow.laid
theorem zWorld_os (os : Os) : (zWorld os).os = os := World.laidAll_os _ _ _
theorem zMet (os : Os) (args : Array Value) : laidMet Tryz.prog Rows.zoneChecksUptoRow.laid ((zWorld os).forCall (fun _ _ => 0) ⟨#[], args, []⟩).memory :=
  laidMet_laidAll _ (by kernel_rfl) (by kernel_rfl)

/-- No head. -/
noncomputable def noHead : Value := .agg #[.slice none 0 0, .int .i64 0, .int .i64 0, .int .i64 0, .slice none 0 0, .slice none 0 0]
theorem zShaped (os : Os) : ((zWorld os).forCall (fun _ _ => 0) ⟨#[], #[noHead], []⟩).Shaped Tryz.prog := World.shaped_of_ZipB (by kernel_rfl) (by kernel_rfl)
theorem zFits (os : Os) : Input.okWideB Tryz.prog ((zWorld os).forCall (fun _ _ => 0) ⟨#[], #[noHead], []⟩) 3 ⟨#[], #[noHead], []⟩ = true := by kernel_rfl
theorem zReads (os : Os) {H : Type} (enc : TypeId × Value → H) : ∃ places, DataW.whole enc Tryz.prog ((zWorld os).forCall (fun _ _ => 0) ⟨#[], #[noHead], []⟩).memory Tryz.f3.params.toList Rows.zoneChecksSpec.vars false #[noHead].toList 8 =
    some ([.agg [.nil, .lit (.int .i64 0), .lit (.int .i64 0), .lit (.int .i64 0), .nil, .nil]], [], places) := ⟨[], by kernel_rfl⟩
end Go.Proofs.YticeaojhadjaaaaGreatDoor
end
