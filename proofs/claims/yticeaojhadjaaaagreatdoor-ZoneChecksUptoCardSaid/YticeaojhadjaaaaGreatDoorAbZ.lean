/- Part 26 of the proof that this seat's laws lean on: an abstract machine over the model's code, its soundness, and what it says of this program. -/
import Derived.Test.YticeaojhadjaaaaGreatDoorAbY

section
set_option linter.unusedSimpArgs false
set_option linter.unusedVariables false
/-! ZoneChecks' closed facts. -/
set_option autoImplicit false
set_option maxRecDepth 100000
namespace Go.Proofs.YticeaojhadjaaaaGreatDoor

theorem bt {a b : Bool} (h : a = true) (h' : b = true) : (a && b) = true := by rw [h, h']; rfl

theorem z1g0 : (Rows.zoneChecksUptoRow.wf (OpenSpec.ofChange (Rows.OpenSpec.upto Rows.zoneChecksSpec).bare)) = true := by kernel_rfl
theorem z1g1 : (laidOutB Tryz.prog) = true ∧ (mapsRowed Tryz.prog) = true := ⟨by kernel_rfl, by kernel_rfl⟩
theorem z1g2 : (Tryz.f3.params.all (Tryz.prog.readableRec ·)) = true ∧ (namedTie Tryz.prog Rows.zoneChecksUptoRow.named ((Rows.OpenSpec.upto Rows.zoneChecksSpec).bare).vars) = true ∧ (Rows.zoneChecksUptoRow.stops == []) = true ∧ (Tryz.prog.stops == []) = true ∧ (Rows.zoneChecksUptoRow.knobs == []) = true ∧ (Tryz.prog.stopKnobs == []) = true := ⟨by kernel_rfl, by kernel_rfl, by kernel_rfl, by kernel_rfl, by kernel_rfl, by kernel_rfl⟩
theorem z1g3 : (Rows.zoneChecksUptoRow.inPlace == Tryz.prog.inPlace 3) = true := by kernel_rfl
theorem z1g4 : (Rows.zoneChecksUptoRow.unfollowed == Tryz.prog.unfollowed 3) = true := by kernel_rfl
theorem z1g5 : (Rows.zoneChecksUptoRow.recurses == Tryz.prog.recurses 3) = true := by kernel_rfl
theorem z1g6 : (Rows.zoneChecksUptoRow.named == Tryz.prog.varsNamed 3) = true := by kernel_rfl
theorem z1g7 : (Rows.zoneChecksUptoRow.maps == (Tryz.f3.params.toList ++ ((Rows.OpenSpec.upto Rows.zoneChecksSpec).bare).plain.varTypes Tryz.prog).any (Tryz.prog.mapsRec ·)) = true ∧ (Rows.zoneChecksUptoRow.ifaces == (Tryz.f3.params.toList ++ ((Rows.OpenSpec.upto Rows.zoneChecksSpec).bare).plain.varTypes Tryz.prog).any (Tryz.prog.ifacesRec ·)) = true ∧ (Rows.zoneChecksUptoRow.mapsOut == Tryz.prog.mapsAmong Tryz.f3.resultTypes.toList) = true ∧ (Rows.zoneChecksUptoRow.loops == (Tryz.f3.params.toList ++ ((Rows.OpenSpec.upto Rows.zoneChecksSpec).bare).plain.varTypes Tryz.prog).any (Tryz.prog.loopsFrom ·)) = true ∧ (Rows.zoneChecksUptoRow.wideKeys == (Tryz.f3.params.toList ++ ((Rows.OpenSpec.upto Rows.zoneChecksSpec).bare).plain.varTypes Tryz.prog ++ Tryz.f3.resultTypes.toList).any (Tryz.prog.wideKeysFrom ·)) = true := ⟨by kernel_rfl, by kernel_rfl, by kernel_rfl, by kernel_rfl, by kernel_rfl⟩
theorem z1g8 : (((Rows.OpenSpec.upto Rows.zoneChecksSpec).bare).vars.all (Tryz.prog.varReadable ·)) = true ∧ (Tryz.f3.resultTypes.all (fun t => Tryz.prog.readableRec t && decide (t < Tryz.prog.types.size))) = true ∧ (Rows.zoneChecksUptoRow.ifacesOut == Tryz.f3.resultTypes.toList.any (Tryz.prog.ifacesRec ·)) = true ∧ (Rows.zoneChecksUptoRow.loopsOut == Tryz.f3.resultTypes.toList.any (Tryz.prog.loopsFrom ·)) = true ∧ (Rows.zoneChecksUptoRow.plainKeys == Tryz.prog.plainKeys) = true ∧ (Rows.zoneChecksUptoRow.shortTexts.isNone) = true := ⟨by kernel_rfl, by kernel_rfl, by kernel_rfl, by kernel_rfl, by kernel_rfl, by kernel_rfl⟩
theorem z1g9 : (Tryz.prog.stopsHeard) = true := by kernel_rfl
theorem z1g10 : (Tryz.prog.mayEnter) = true ∧ (Rows.zoneChecksUptoRow.lifted == Tryz.prog.liftsFinal) = true ∧ (Tryz.prog.make == some Rows.zoneChecksUptoRow.make) = true ∧ (Rows.zoneChecksUptoRow.kinds == (if Rows.zoneChecksUptoRow.domain.isEmpty then [] else Tryz.f3.params.toList.map fun t => match Tryz.prog.underlying t with | some (.int k) => some k | _ => none)) = true ∧ (Rows.zoneChecksUptoRow.pinned == Rows.zoneChecksUptoRow.pinnedBy) = true := ⟨by kernel_rfl, by kernel_rfl, by kernel_rfl, by kernel_rfl, by kernel_rfl⟩
theorem z1g11 : (Rows.zoneChecksUptoRow.veiled == (Tryz.f3.params.toList ++ ((Rows.OpenSpec.upto Rows.zoneChecksSpec).bare).plain.varTypes Tryz.prog ++ Tryz.f3.resultTypes.toList).any (Tryz.prog.veiledRec ·)) = true ∧ (Rows.zoneChecksUptoRow.veiledFits Tryz.prog Tryz.f3.params.toList (Tryz.f3.params.toList ++ ((Rows.OpenSpec.upto Rows.zoneChecksSpec).bare).plain.varTypes Tryz.prog ++ Tryz.f3.resultTypes.toList)) = true := ⟨by kernel_rfl, by kernel_rfl⟩
theorem z1facts : joinedFacts Tryz.prog 3 Tryz.f3 (Rows.OpenSpec.upto Rows.zoneChecksSpec).bare Rows.zoneChecksUptoRow = true :=
  bt (bt (bt (bt (bt (bt (bt (bt (bt (bt (bt (bt (bt (bt (bt (bt (bt (bt (bt (bt (bt (bt (bt (bt (bt (bt (bt (bt (bt (bt (bt z1g0 z1g1.1) z1g1.2) z1g2.1) z1g2.2.1) z1g2.2.2.1) z1g2.2.2.2.1) z1g2.2.2.2.2.1) z1g2.2.2.2.2.2) z1g3) z1g4) z1g5) z1g6) z1g7.1) z1g7.2.1) z1g7.2.2.1) z1g7.2.2.2.1) z1g7.2.2.2.2) z1g8.1) z1g8.2.1) z1g8.2.2.1) z1g8.2.2.2.1) z1g8.2.2.2.2.1) z1g8.2.2.2.2.2) z1g9) z1g10.1) z1g10.2.1) z1g10.2.2.1) z1g10.2.2.2.1) z1g10.2.2.2.2) z1g11.1) z1g11.2
end Go.Proofs.YticeaojhadjaaaaGreatDoor
end
