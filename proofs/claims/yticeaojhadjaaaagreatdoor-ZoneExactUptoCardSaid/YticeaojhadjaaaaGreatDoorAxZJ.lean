/- Part 36 of the proof that this seat's laws lean on: an abstract machine over the model's code, its soundness, and what it says of this program. -/
import Derived.Test.YticeaojhadjaaaaGreatDoorAxZI

section
set_option linter.unusedSimpArgs false
set_option linter.unusedVariables false
/-! ZoneExact's closed facts. -/
set_option autoImplicit false
set_option maxRecDepth 100000
namespace Go.Proofs.YticeaojhadjaaaaGreatDoor

theorem bt {a b : Bool} (h : a = true) (h' : b = true) : (a && b) = true := by rw [h, h']; rfl

theorem xg0 : (Rows.zoneExactUptoRow.wf (OpenSpec.ofChange (Rows.OpenSpec.upto Rows.zoneExactSpec).bare)) = true := by kernel_rfl
theorem xg1 : (laidOutB Tryz.prog) = true ∧ (mapsRowed Tryz.prog) = true := ⟨by kernel_rfl, by kernel_rfl⟩
theorem xg2 : (Tryz.f4.params.all (Tryz.prog.readableRec ·)) = true ∧ (namedTie Tryz.prog Rows.zoneExactUptoRow.named ((Rows.OpenSpec.upto Rows.zoneExactSpec).bare).vars) = true ∧ (Rows.zoneExactUptoRow.stops == []) = true ∧ (Tryz.prog.stops == []) = true ∧ (Rows.zoneExactUptoRow.knobs == []) = true ∧ (Tryz.prog.stopKnobs == []) = true := ⟨by kernel_rfl, by kernel_rfl, by kernel_rfl, by kernel_rfl, by kernel_rfl, by kernel_rfl⟩
theorem xg3 : (Rows.zoneExactUptoRow.inPlace == Tryz.prog.inPlace 4) = true := by kernel_rfl
theorem xg4 : (Rows.zoneExactUptoRow.unfollowed == Tryz.prog.unfollowed 4) = true := by kernel_rfl
theorem xg5 : (Rows.zoneExactUptoRow.recurses == Tryz.prog.recurses 4) = true := by kernel_rfl
theorem xg6 : (Rows.zoneExactUptoRow.named == Tryz.prog.varsNamed 4) = true := by kernel_rfl
theorem xg7 : (Rows.zoneExactUptoRow.maps == (Tryz.f4.params.toList ++ ((Rows.OpenSpec.upto Rows.zoneExactSpec).bare).plain.varTypes Tryz.prog).any (Tryz.prog.mapsRec ·)) = true ∧ (Rows.zoneExactUptoRow.ifaces == (Tryz.f4.params.toList ++ ((Rows.OpenSpec.upto Rows.zoneExactSpec).bare).plain.varTypes Tryz.prog).any (Tryz.prog.ifacesRec ·)) = true ∧ (Rows.zoneExactUptoRow.mapsOut == Tryz.prog.mapsAmong Tryz.f4.resultTypes.toList) = true ∧ (Rows.zoneExactUptoRow.loops == (Tryz.f4.params.toList ++ ((Rows.OpenSpec.upto Rows.zoneExactSpec).bare).plain.varTypes Tryz.prog).any (Tryz.prog.loopsFrom ·)) = true ∧ (Rows.zoneExactUptoRow.wideKeys == (Tryz.f4.params.toList ++ ((Rows.OpenSpec.upto Rows.zoneExactSpec).bare).plain.varTypes Tryz.prog ++ Tryz.f4.resultTypes.toList).any (Tryz.prog.wideKeysFrom ·)) = true := ⟨by kernel_rfl, by kernel_rfl, by kernel_rfl, by kernel_rfl, by kernel_rfl⟩
theorem xg8 : (((Rows.OpenSpec.upto Rows.zoneExactSpec).bare).vars.all (Tryz.prog.varReadable ·)) = true ∧ (Tryz.f4.resultTypes.all (fun t => Tryz.prog.readableRec t && decide (t < Tryz.prog.types.size))) = true ∧ (Rows.zoneExactUptoRow.ifacesOut == Tryz.f4.resultTypes.toList.any (Tryz.prog.ifacesRec ·)) = true ∧ (Rows.zoneExactUptoRow.loopsOut == Tryz.f4.resultTypes.toList.any (Tryz.prog.loopsFrom ·)) = true ∧ (Rows.zoneExactUptoRow.plainKeys == Tryz.prog.plainKeys) = true ∧ (Rows.zoneExactUptoRow.shortTexts.isNone) = true := ⟨by kernel_rfl, by kernel_rfl, by kernel_rfl, by kernel_rfl, by kernel_rfl, by kernel_rfl⟩
theorem xg9 : (Tryz.prog.stopsHeard) = true := by kernel_rfl
theorem xg10 : (Tryz.prog.mayEnter) = true ∧ (Rows.zoneExactUptoRow.lifted == Tryz.prog.liftsFinal) = true ∧ (Tryz.prog.make == some Rows.zoneExactUptoRow.make) = true ∧ (Rows.zoneExactUptoRow.kinds == (if Rows.zoneExactUptoRow.domain.isEmpty then [] else Tryz.f4.params.toList.map fun t => match Tryz.prog.underlying t with | some (.int k) => some k | _ => none)) = true ∧ (Rows.zoneExactUptoRow.pinned == Rows.zoneExactUptoRow.pinnedBy) = true := ⟨by kernel_rfl, by kernel_rfl, by kernel_rfl, by kernel_rfl, by kernel_rfl⟩
theorem xg11 : (Rows.zoneExactUptoRow.veiled == (Tryz.f4.params.toList ++ ((Rows.OpenSpec.upto Rows.zoneExactSpec).bare).plain.varTypes Tryz.prog ++ Tryz.f4.resultTypes.toList).any (Tryz.prog.veiledRec ·)) = true ∧ (Rows.zoneExactUptoRow.veiledFits Tryz.prog Tryz.f4.params.toList (Tryz.f4.params.toList ++ ((Rows.OpenSpec.upto Rows.zoneExactSpec).bare).plain.varTypes Tryz.prog ++ Tryz.f4.resultTypes.toList)) = true := ⟨by kernel_rfl, by kernel_rfl⟩
theorem xfacts : joinedFacts Tryz.prog 4 Tryz.f4 (Rows.OpenSpec.upto Rows.zoneExactSpec).bare Rows.zoneExactUptoRow = true :=
  bt (bt (bt (bt (bt (bt (bt (bt (bt (bt (bt (bt (bt (bt (bt (bt (bt (bt (bt (bt (bt (bt (bt (bt (bt (bt (bt (bt (bt (bt (bt xg0 xg1.1) xg1.2) xg2.1) xg2.2.1) xg2.2.2.1) xg2.2.2.2.1) xg2.2.2.2.2.1) xg2.2.2.2.2.2) xg3) xg4) xg5) xg6) xg7.1) xg7.2.1) xg7.2.2.1) xg7.2.2.2.1) xg7.2.2.2.2) xg8.1) xg8.2.1) xg8.2.2.1) xg8.2.2.2.1) xg8.2.2.2.2.1) xg8.2.2.2.2.2) xg9) xg10.1) xg10.2.1) xg10.2.2.1) xg10.2.2.2.1) xg10.2.2.2.2) xg11.1) xg11.2

end Go.Proofs.YticeaojhadjaaaaGreatDoor
end
