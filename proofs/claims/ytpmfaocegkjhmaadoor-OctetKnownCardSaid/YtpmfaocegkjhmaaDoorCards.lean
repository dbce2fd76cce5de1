/-
  DERIVED. GIVEN WITH THE SEED: THE CARDS: each row of YtpmfaocegkjhmaaDoorRows.lean that lists a variable, with what it lists TIED to the program's text (the seventh form; the later family's looks); each row that meets fmt, with fmt's text TOLD by the authors' own Lean function (tested against real Go, not proved from fmt's source: count such statements apart). THE CARD IS WHAT COUNTS. Prove the row's statement (the work); the ties are given (YtpmfaocegkjhmaaDoorTie.lean); close each card by the builder's one call (the guide's Derived/Test/ToyasCard.lean, 'card_holds'). Laid BY PROGRAM, IN A SANDBOX (cutbox-door.mjs). By AI agents, Wed Nov 11 2026. No macro, syntax, notation, axiom, sorry.
-/
import Derived.Test.YtpmfaocegkjhmaaDoorRows
import GoSem.ClaimSeven
namespace Go.Proofs.YtpmfaocegkjhmaaDoor
namespace Rows

/-- THE TIED CARD OF 'sounderlaw02.OctetWrites'. -/
def octetWritesCard : Claim7 := { stood := { row := octetWritesRow, standIns := [], harness := (true, "2a6250151407f6d64213dd0fb8dcd79b3c43fe791f538e7e427dc48ecd1b4f08"), looks := false }, kinds := [], alts := [], laidByText := true, laidKinds := [.widerDeep], laidTests := true, laidLooks := .later }
def OctetWritesCardSaid : Prop := Claim7.holds Tryd.pinned (.plain (OpenSpec.ofChange octetWritesSpec)) octetWritesCard

/-- THE TIED CARD OF 'sounderlaw02.OctetShort'. -/
def octetShortCard : Claim7 := { stood := { row := octetShortRow, standIns := [], harness := (true, "2a6250151407f6d64213dd0fb8dcd79b3c43fe791f538e7e427dc48ecd1b4f08"), looks := false }, kinds := [], alts := [], laidByText := true, laidKinds := [.widerDeep], laidTests := true, laidLooks := .later }
def OctetShortCardSaid : Prop := Claim7.holds Tryd.pinned (.plain (OpenSpec.ofChange octetShortSpec)) octetShortCard

/-- THE TIED CARD OF 'sounderlaw02.OctetCut'. -/
def octetCutCard : Claim7 := { stood := { row := octetCutRow, standIns := [], harness := (true, "2a6250151407f6d64213dd0fb8dcd79b3c43fe791f538e7e427dc48ecd1b4f08"), looks := false }, kinds := [], alts := [], laidByText := true, laidKinds := [.widerDeep], laidTests := true, laidLooks := .later }
def OctetCutCardSaid : Prop := Claim7.holds Tryd.pinned (.plain (OpenSpec.ofChange octetCutSpec)) octetCutCard

/-- THE TIED CARD OF 'sounderlaw02.OctetBits'. -/
def octetBitsCard : Claim7 := { stood := { row := octetBitsRow, standIns := [], harness := (true, "2a6250151407f6d64213dd0fb8dcd79b3c43fe791f538e7e427dc48ecd1b4f08"), looks := false }, kinds := [], alts := [], laidByText := true, laidKinds := [.widerDeep], laidTests := true, laidLooks := .later }
def OctetBitsCardSaid : Prop := Claim7.holds Tryd.pinned (.plain (OpenSpec.ofChange octetBitsSpec)) octetBitsCard

/-- THE TIED CARD OF 'sounderlaw02.OctetReads'. -/
def octetReadsCard : Claim7 := { stood := { row := octetReadsRow, standIns := [], harness := (true, "2a6250151407f6d64213dd0fb8dcd79b3c43fe791f538e7e427dc48ecd1b4f08"), looks := false }, kinds := [], alts := [], laidByText := true, laidKinds := [.widerDeep], laidTests := true, laidLooks := .later }
def OctetReadsCardSaid : Prop := Claim7.holds Tryd.pinned (.plain (OpenSpec.ofChange octetReadsSpec)) octetReadsCard

/-- THE TIED CARD OF 'sounderlaw02.OctetBack'. -/
def octetBackCard : Claim7 := { stood := { row := octetBackRow, standIns := [], harness := (true, "2a6250151407f6d64213dd0fb8dcd79b3c43fe791f538e7e427dc48ecd1b4f08"), looks := false }, kinds := [], alts := [], laidByText := true, laidKinds := [.widerDeep], laidTests := true, laidLooks := .later }
def OctetBackCardSaid : Prop := Claim7.holds Tryd.pinned (.plain (OpenSpec.ofChange octetBackSpec)) octetBackCard

/-- THE TIED CARD OF 'sounderlaw02.OctetKnown'. -/
def octetKnownCard : Claim7 := { stood := { row := octetKnownRow, standIns := [], harness := (true, "2a6250151407f6d64213dd0fb8dcd79b3c43fe791f538e7e427dc48ecd1b4f08"), looks := false }, kinds := [], alts := [], laidByText := true, laidKinds := [.widerDeep], laidTests := true, laidLooks := .later }
def OctetKnownCardSaid : Prop := Claim7.holds Tryd.pinned (.plain (OpenSpec.ofChange octetKnownSpec)) octetKnownCard

/-- THE SECOND FORM's CARD OF 'sounderlaw02.OctetWrites'. -/
def octetWritesUptoCard : Claim7 := { stood := { row := octetWritesUptoRow, standIns := [], harness := (true, "2a6250151407f6d64213dd0fb8dcd79b3c43fe791f538e7e427dc48ecd1b4f08"), looks := false }, kinds := [], alts := [], laidByText := true, laidKinds := [.widerDeep], laidTests := true, laidLooks := .later }
def OctetWritesUptoCardSaid : Prop := Claim7.holds Tryd.pinned (.plain (OpenSpec.upto octetWritesSpec)) octetWritesUptoCard

/-- THE SECOND FORM's CARD OF 'sounderlaw02.OctetShort'. -/
def octetShortUptoCard : Claim7 := { stood := { row := octetShortUptoRow, standIns := [], harness := (true, "2a6250151407f6d64213dd0fb8dcd79b3c43fe791f538e7e427dc48ecd1b4f08"), looks := false }, kinds := [], alts := [], laidByText := true, laidKinds := [.widerDeep], laidTests := true, laidLooks := .later }
def OctetShortUptoCardSaid : Prop := Claim7.holds Tryd.pinned (.plain (OpenSpec.upto octetShortSpec)) octetShortUptoCard

/-- THE SECOND FORM's CARD OF 'sounderlaw02.OctetCut'. -/
def octetCutUptoCard : Claim7 := { stood := { row := octetCutUptoRow, standIns := [], harness := (true, "2a6250151407f6d64213dd0fb8dcd79b3c43fe791f538e7e427dc48ecd1b4f08"), looks := false }, kinds := [], alts := [], laidByText := true, laidKinds := [.widerDeep], laidTests := true, laidLooks := .later }
def OctetCutUptoCardSaid : Prop := Claim7.holds Tryd.pinned (.plain (OpenSpec.upto octetCutSpec)) octetCutUptoCard

/-- THE SECOND FORM's CARD OF 'sounderlaw02.OctetBits'. -/
def octetBitsUptoCard : Claim7 := { stood := { row := octetBitsUptoRow, standIns := [], harness := (true, "2a6250151407f6d64213dd0fb8dcd79b3c43fe791f538e7e427dc48ecd1b4f08"), looks := false }, kinds := [], alts := [], laidByText := true, laidKinds := [.widerDeep], laidTests := true, laidLooks := .later }
def OctetBitsUptoCardSaid : Prop := Claim7.holds Tryd.pinned (.plain (OpenSpec.upto octetBitsSpec)) octetBitsUptoCard

/-- THE SECOND FORM's CARD OF 'sounderlaw02.OctetReads'. -/
def octetReadsUptoCard : Claim7 := { stood := { row := octetReadsUptoRow, standIns := [], harness := (true, "2a6250151407f6d64213dd0fb8dcd79b3c43fe791f538e7e427dc48ecd1b4f08"), looks := false }, kinds := [], alts := [], laidByText := true, laidKinds := [.widerDeep], laidTests := true, laidLooks := .later }
def OctetReadsUptoCardSaid : Prop := Claim7.holds Tryd.pinned (.plain (OpenSpec.upto octetReadsSpec)) octetReadsUptoCard

/-- THE SECOND FORM's CARD OF 'sounderlaw02.OctetBack'. -/
def octetBackUptoCard : Claim7 := { stood := { row := octetBackUptoRow, standIns := [], harness := (true, "2a6250151407f6d64213dd0fb8dcd79b3c43fe791f538e7e427dc48ecd1b4f08"), looks := false }, kinds := [], alts := [], laidByText := true, laidKinds := [.widerDeep], laidTests := true, laidLooks := .later }
def OctetBackUptoCardSaid : Prop := Claim7.holds Tryd.pinned (.plain (OpenSpec.upto octetBackSpec)) octetBackUptoCard

/-- THE SECOND FORM's CARD OF 'sounderlaw02.OctetKnown'. -/
def octetKnownUptoCard : Claim7 := { stood := { row := octetKnownUptoRow, standIns := [], harness := (true, "2a6250151407f6d64213dd0fb8dcd79b3c43fe791f538e7e427dc48ecd1b4f08"), looks := false }, kinds := [], alts := [], laidByText := true, laidKinds := [.widerDeep], laidTests := true, laidLooks := .later }
def OctetKnownUptoCardSaid : Prop := Claim7.holds Tryd.pinned (.plain (OpenSpec.upto octetKnownSpec)) octetKnownUptoCard
end Rows
end Go.Proofs.YtpmfaocegkjhmaaDoor
