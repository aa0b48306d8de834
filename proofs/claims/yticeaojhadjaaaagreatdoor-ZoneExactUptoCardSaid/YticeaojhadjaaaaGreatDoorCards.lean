/-
  DERIVED. GIVEN WITH THE SEED: THE CARDS: each row of YticeaojhadjaaaaGreatDoorRows.lean that lists a variable, with what it lists TIED to the program's text (the seventh form; the later family's looks); each row that meets fmt, with fmt's text TOLD by the authors' own Lean function (tested against real Go, not proved from fmt's source: count such statements apart). THE CARD IS WHAT COUNTS. Prove the row's statement (the work); the ties are given (YticeaojhadjaaaaGreatDoorTie.lean); close each card by the builder's one call (the guide's Derived/Test/ToyasCard.lean, 'card_holds'). Laid BY PROGRAM, IN A SANDBOX (cutbox-door.mjs). By AI agents, Wed Nov 11 2026. No macro, syntax, notation, axiom, sorry.
-/
import Derived.Test.YticeaojhadjaaaaGreatDoorRows
import GoSem.ClaimSeven
namespace Go.Proofs.YticeaojhadjaaaaGreatDoor
namespace Rows

/-- THE TIED CARD OF 'cirruslaw07.ZoneChecks'. -/
def zoneChecksCard : Claim7 := { stood := { row := zoneChecksRow, standIns := [], harness := (true, "aae39be2bc01b00ba516ad1d505dd1c930179cacf1bd5fac5b917c07d8768016"), looks := true }, kinds := [], alts := [], laidByText := true, laidKinds := [.data, .data, .data, .data, .sentinel, .sentinel, .pinned, .pinned], laidTests := true, laidLooks := .later }
def ZoneChecksCardSaid : Prop := Claim7.holds Tryz.pinned (.plain (OpenSpec.ofChange zoneChecksSpec)) zoneChecksCard

/-- THE TIED CARD OF 'cirruslaw07.ZoneExact'. -/
def zoneExactCard : Claim7 := { stood := { row := zoneExactRow, standIns := [], harness := (true, "aae39be2bc01b00ba516ad1d505dd1c930179cacf1bd5fac5b917c07d8768016"), looks := true }, kinds := [], alts := [], laidByText := true, laidKinds := [.data, .data, .data, .data, .sentinel, .sentinel, .pinned, .pinned], laidTests := true, laidLooks := .later }
def ZoneExactCardSaid : Prop := Claim7.holds Tryz.pinned (.plain (OpenSpec.ofChange zoneExactSpec)) zoneExactCard

/-- THE TIED CARD OF 'cirruslaw07.ZoneNot'. -/
def zoneNotCard : Claim7 := { stood := { row := zoneNotRow, standIns := [], harness := (true, "aae39be2bc01b00ba516ad1d505dd1c930179cacf1bd5fac5b917c07d8768016"), looks := true }, kinds := [], alts := [], laidByText := true, laidKinds := [.data, .data, .data, .data, .sentinel, .sentinel, .pinned, .pinned], laidTests := true, laidLooks := .later }
def ZoneNotCardSaid : Prop := Claim7.holds Tryz.pinned (.plain (OpenSpec.ofChange zoneNotSpec)) zoneNotCard

/-- THE TIED CARD OF 'cirruslaw07.ZoneOf'. -/
def zoneOfCard : Claim7 := { stood := { row := zoneOfRow, standIns := [], harness := (true, "aae39be2bc01b00ba516ad1d505dd1c930179cacf1bd5fac5b917c07d8768016"), looks := true }, kinds := [], alts := [], laidByText := true, laidKinds := [.data, .data, .data, .data, .sentinel, .sentinel, .pinned, .pinned], laidTests := true, laidLooks := .later }
def ZoneOfCardSaid : Prop := Claim7.holds Tryz.pinned (.plain (OpenSpec.ofChange zoneOfSpec)) zoneOfCard

/-- THE TIED CARD OF 'cirruslaw07.ZoneSound'. -/
def zoneSoundCard : Claim7 := { stood := { row := zoneSoundRow, standIns := [], harness := (true, "aae39be2bc01b00ba516ad1d505dd1c930179cacf1bd5fac5b917c07d8768016"), looks := true }, kinds := [], alts := [], laidByText := true, laidKinds := [.data, .data, .data, .data, .sentinel, .sentinel, .pinned, .pinned], laidTests := true, laidLooks := .later }
def ZoneSoundCardSaid : Prop := Claim7.holds Tryz.pinned (.plain (OpenSpec.ofChange zoneSoundSpec)) zoneSoundCard

/-- THE TIED CARD OF 'cirruslaw07.ZoneWider'. -/
def zoneWiderCard : Claim7 := { stood := { row := zoneWiderRow, standIns := [], harness := (true, "aae39be2bc01b00ba516ad1d505dd1c930179cacf1bd5fac5b917c07d8768016"), looks := true }, kinds := [], alts := [], laidByText := true, laidKinds := [.data, .data, .data, .data, .sentinel, .sentinel, .pinned, .pinned], laidTests := true, laidLooks := .later }
def ZoneWiderCardSaid : Prop := Claim7.holds Tryz.pinned (.plain (OpenSpec.ofChange zoneWiderSpec)) zoneWiderCard

/-- THE TIED CARD OF 'cirruslaw07.ZoneSplits'. -/
def zoneSplitsCard : Claim7 := { stood := { row := zoneSplitsRow, standIns := [], harness := (true, "aae39be2bc01b00ba516ad1d505dd1c930179cacf1bd5fac5b917c07d8768016"), looks := true }, kinds := [], alts := [], laidByText := true, laidKinds := [.data, .data, .data, .data, .sentinel, .sentinel, .pinned, .pinned], laidTests := true, laidLooks := .later }
def ZoneSplitsCardSaid : Prop := Claim7.holds Tryz.pinned (.plain (OpenSpec.ofChange zoneSplitsSpec)) zoneSplitsCard

/-- THE SECOND FORM's CARD OF 'cirruslaw07.ZoneChecks'. -/
def zoneChecksUptoCard : Claim7 := { stood := { row := zoneChecksUptoRow, standIns := [], harness := (true, "aae39be2bc01b00ba516ad1d505dd1c930179cacf1bd5fac5b917c07d8768016"), looks := true }, kinds := [], alts := [], laidByText := true, laidKinds := [.data, .data, .data, .data, .sentinel, .sentinel, .pinned, .pinned], laidTests := true, laidLooks := .later }
def ZoneChecksUptoCardSaid : Prop := Claim7.holds Tryz.pinned (.plain (OpenSpec.upto zoneChecksSpec)) zoneChecksUptoCard

/-- THE SECOND FORM's CARD OF 'cirruslaw07.ZoneExact'. -/
def zoneExactUptoCard : Claim7 := { stood := { row := zoneExactUptoRow, standIns := [], harness := (true, "aae39be2bc01b00ba516ad1d505dd1c930179cacf1bd5fac5b917c07d8768016"), looks := true }, kinds := [], alts := [], laidByText := true, laidKinds := [.data, .data, .data, .data, .sentinel, .sentinel, .pinned, .pinned], laidTests := true, laidLooks := .later }
def ZoneExactUptoCardSaid : Prop := Claim7.holds Tryz.pinned (.plain (OpenSpec.upto zoneExactSpec)) zoneExactUptoCard

/-- THE SECOND FORM's CARD OF 'cirruslaw07.ZoneNot'. -/
def zoneNotUptoCard : Claim7 := { stood := { row := zoneNotUptoRow, standIns := [], harness := (true, "aae39be2bc01b00ba516ad1d505dd1c930179cacf1bd5fac5b917c07d8768016"), looks := true }, kinds := [], alts := [], laidByText := true, laidKinds := [.data, .data, .data, .data, .sentinel, .sentinel, .pinned, .pinned], laidTests := true, laidLooks := .later }
def ZoneNotUptoCardSaid : Prop := Claim7.holds Tryz.pinned (.plain (OpenSpec.upto zoneNotSpec)) zoneNotUptoCard

/-- THE SECOND FORM's CARD OF 'cirruslaw07.ZoneOf'. -/
def zoneOfUptoCard : Claim7 := { stood := { row := zoneOfUptoRow, standIns := [], harness := (true, "aae39be2bc01b00ba516ad1d505dd1c930179cacf1bd5fac5b917c07d8768016"), looks := true }, kinds := [], alts := [], laidByText := true, laidKinds := [.data, .data, .data, .data, .sentinel, .sentinel, .pinned, .pinned], laidTests := true, laidLooks := .later }
def ZoneOfUptoCardSaid : Prop := Claim7.holds Tryz.pinned (.plain (OpenSpec.upto zoneOfSpec)) zoneOfUptoCard

/-- THE SECOND FORM's CARD OF 'cirruslaw07.ZoneSound'. -/
def zoneSoundUptoCard : Claim7 := { stood := { row := zoneSoundUptoRow, standIns := [], harness := (true, "aae39be2bc01b00ba516ad1d505dd1c930179cacf1bd5fac5b917c07d8768016"), looks := true }, kinds := [], alts := [], laidByText := true, laidKinds := [.data, .data, .data, .data, .sentinel, .sentinel, .pinned, .pinned], laidTests := true, laidLooks := .later }
def ZoneSoundUptoCardSaid : Prop := Claim7.holds Tryz.pinned (.plain (OpenSpec.upto zoneSoundSpec)) zoneSoundUptoCard

/-- THE SECOND FORM's CARD OF 'cirruslaw07.ZoneWider'. -/
def zoneWiderUptoCard : Claim7 := { stood := { row := zoneWiderUptoRow, standIns := [], harness := (true, "aae39be2bc01b00ba516ad1d505dd1c930179cacf1bd5fac5b917c07d8768016"), looks := true }, kinds := [], alts := [], laidByText := true, laidKinds := [.data, .data, .data, .data, .sentinel, .sentinel, .pinned, .pinned], laidTests := true, laidLooks := .later }
def ZoneWiderUptoCardSaid : Prop := Claim7.holds Tryz.pinned (.plain (OpenSpec.upto zoneWiderSpec)) zoneWiderUptoCard

/-- THE SECOND FORM's CARD OF 'cirruslaw07.ZoneSplits'. -/
def zoneSplitsUptoCard : Claim7 := { stood := { row := zoneSplitsUptoRow, standIns := [], harness := (true, "aae39be2bc01b00ba516ad1d505dd1c930179cacf1bd5fac5b917c07d8768016"), looks := true }, kinds := [], alts := [], laidByText := true, laidKinds := [.data, .data, .data, .data, .sentinel, .sentinel, .pinned, .pinned], laidTests := true, laidLooks := .later }
def ZoneSplitsUptoCardSaid : Prop := Claim7.holds Tryz.pinned (.plain (OpenSpec.upto zoneSplitsSpec)) zoneSplitsUptoCard
end Rows
end Go.Proofs.YticeaojhadjaaaaGreatDoor
