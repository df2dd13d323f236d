/-
  DERIVED. GIVEN WITH THE SEED: THE CARDS: each row of YtdgbililgkhjfaaDoorRows.lean that lists a variable, with what it lists TIED to the program's text (the seventh form; the later family's looks); each row that meets fmt, with fmt's text TOLD by the authors' own Lean function (tested against real Go, not proved from fmt's source: count such statements apart). THE CARD IS WHAT COUNTS. Prove the row's statement (the work); the ties are given (YtdgbililgkhjfaaDoorTie.lean); close each card by the builder's one call (the guide's Derived/Test/ToyasCard.lean, 'card_holds'). Laid BY PROGRAM, IN A SANDBOX (cutbox-door.mjs). By AI agents, Wed Nov 11 2026. No macro, syntax, notation, axiom, sorry.
-/
import Derived.Test.YtdgbililgkhjfaaDoorRows
import GoSem.ClaimSeven
namespace Go.Proofs.YtdgbililgkhjfaaDoor
namespace Rows

/-- THE TIED CARD OF 'hindcastlaw21.PacketPuts'. -/
def packetPutsCard : Claim7 := { stood := { row := packetPutsRow, standIns := [], harness := (true, "81141e09b3fd4d1f534b97ca45e3227b99ae4508899b47c69da5bed1a4dc6c8a"), looks := false }, kinds := [], alts := [], laidByText := true, laidKinds := [.data], laidTests := true, laidLooks := .later }
def PacketPutsCardSaid : Prop := Claim7.holds Tryd.pinned (.plain (OpenSpec.ofChange packetPutsSpec)) packetPutsCard

/-- THE TIED CARD OF 'hindcastlaw21.PacketTakes'. -/
def packetTakesCard : Claim7 := { stood := { row := packetTakesRow, standIns := [], harness := (true, "81141e09b3fd4d1f534b97ca45e3227b99ae4508899b47c69da5bed1a4dc6c8a"), looks := false }, kinds := [], alts := [], laidByText := true, laidKinds := [.data], laidTests := true, laidLooks := .later }
def PacketTakesCardSaid : Prop := Claim7.holds Tryd.pinned (.plain (OpenSpec.ofChange packetTakesSpec)) packetTakesCard

/-- THE TIED CARD OF 'hindcastlaw21.PacketKnown'. -/
def packetKnownCard : Claim7 := { stood := { row := packetKnownRow, standIns := [], harness := (true, "81141e09b3fd4d1f534b97ca45e3227b99ae4508899b47c69da5bed1a4dc6c8a"), looks := false }, kinds := [], alts := [], laidByText := true, laidKinds := [.data], laidTests := true, laidLooks := .later }
def PacketKnownCardSaid : Prop := Claim7.holds Tryd.pinned (.plain (OpenSpec.ofChange packetKnownSpec)) packetKnownCard

/-- THE TIED CARD OF 'hindcastlaw21.PacketBack'. -/
def packetBackCard : Claim7 := { stood := { row := packetBackRow, standIns := [], harness := (true, "81141e09b3fd4d1f534b97ca45e3227b99ae4508899b47c69da5bed1a4dc6c8a"), looks := false }, kinds := [], alts := [], laidByText := true, laidKinds := [.data], laidTests := true, laidLooks := .later }
def PacketBackCardSaid : Prop := Claim7.holds Tryd.pinned (.plain (OpenSpec.ofChange packetBackSpec)) packetBackCard

/-- THE TIED CARD OF 'hindcastlaw21.PacketSpoilt'. -/
def packetSpoiltCard : Claim7 := { stood := { row := packetSpoiltRow, standIns := [], harness := (true, "81141e09b3fd4d1f534b97ca45e3227b99ae4508899b47c69da5bed1a4dc6c8a"), looks := false }, kinds := [], alts := [], laidByText := true, laidKinds := [.data], laidTests := true, laidLooks := .later }
def PacketSpoiltCardSaid : Prop := Claim7.holds Tryd.pinned (.plain (OpenSpec.ofChange packetSpoiltSpec)) packetSpoiltCard

/-- THE TIED CARD OF 'hindcastlaw23.LinkDue'. -/
def linkDueCard : Claim7 := { stood := { row := linkDueRow, standIns := [], harness := (true, "81141e09b3fd4d1f534b97ca45e3227b99ae4508899b47c69da5bed1a4dc6c8a"), looks := false }, kinds := [], alts := [], laidByText := true, laidKinds := [.data], laidTests := true, laidLooks := .later }
def LinkDueCardSaid : Prop := Claim7.holds Tryd.pinned (.plain (OpenSpec.ofChange linkDueSpec)) linkDueCard

/-- THE TIED CARD OF 'hindcastlaw23.LinkRises'. -/
def linkRisesCard : Claim7 := { stood := { row := linkRisesRow, standIns := [], harness := (true, "81141e09b3fd4d1f534b97ca45e3227b99ae4508899b47c69da5bed1a4dc6c8a"), looks := false }, kinds := [], alts := [], laidByText := true, laidKinds := [.data], laidTests := true, laidLooks := .later }
def LinkRisesCardSaid : Prop := Claim7.holds Tryd.pinned (.plain (OpenSpec.ofChange linkRisesSpec)) linkRisesCard

/-- THE TIED CARD OF 'hindcastlaw23.LinkPlays'. -/
def linkPlaysCard : Claim7 := { stood := { row := linkPlaysRow, standIns := [], harness := (true, "81141e09b3fd4d1f534b97ca45e3227b99ae4508899b47c69da5bed1a4dc6c8a"), looks := false }, kinds := [], alts := [], laidByText := true, laidKinds := [.data], laidTests := true, laidLooks := .later }
def LinkPlaysCardSaid : Prop := Claim7.holds Tryd.pinned (.plain (OpenSpec.ofChange linkPlaysSpec)) linkPlaysCard

/-- THE TIED CARD OF 'hindcastlaw23.LinkKnown'. -/
def linkKnownCard : Claim7 := { stood := { row := linkKnownRow, standIns := [], harness := (true, "81141e09b3fd4d1f534b97ca45e3227b99ae4508899b47c69da5bed1a4dc6c8a"), looks := false }, kinds := [], alts := [], laidByText := true, laidKinds := [.data], laidTests := true, laidLooks := .later }
def LinkKnownCardSaid : Prop := Claim7.holds Tryd.pinned (.plain (OpenSpec.ofChange linkKnownSpec)) linkKnownCard

/-- THE TIED CARD OF 'hindcastlaw27.ResumeKnows'. -/
def resumeKnowsCard : Claim7 := { stood := { row := resumeKnowsRow, standIns := [], harness := (true, "81141e09b3fd4d1f534b97ca45e3227b99ae4508899b47c69da5bed1a4dc6c8a"), looks := false }, kinds := [], alts := [], laidByText := true, laidKinds := [.data], laidTests := true, laidLooks := .later }
def ResumeKnowsCardSaid : Prop := Claim7.holds Tryd.pinned (.plain (OpenSpec.ofChange resumeKnowsSpec)) resumeKnowsCard

/-- THE TIED CARD OF 'hindcastlaw27.ResumePlays'. -/
def resumePlaysCard : Claim7 := { stood := { row := resumePlaysRow, standIns := [], harness := (true, "81141e09b3fd4d1f534b97ca45e3227b99ae4508899b47c69da5bed1a4dc6c8a"), looks := false }, kinds := [], alts := [], laidByText := true, laidKinds := [.data], laidTests := true, laidLooks := .later }
def ResumePlaysCardSaid : Prop := Claim7.holds Tryd.pinned (.plain (OpenSpec.ofChange resumePlaysSpec)) resumePlaysCard

/-- THE TIED CARD OF 'hindcastlaw27.ResumeKnown'. -/
def resumeKnownCard : Claim7 := { stood := { row := resumeKnownRow, standIns := [], harness := (true, "81141e09b3fd4d1f534b97ca45e3227b99ae4508899b47c69da5bed1a4dc6c8a"), looks := false }, kinds := [], alts := [], laidByText := true, laidKinds := [.data], laidTests := true, laidLooks := .later }
def ResumeKnownCardSaid : Prop := Claim7.holds Tryd.pinned (.plain (OpenSpec.ofChange resumeKnownSpec)) resumeKnownCard

/-- THE TIED CARD OF 'hindcastlaw27.ResumeMeets'. -/
def resumeMeetsCard : Claim7 := { stood := { row := resumeMeetsRow, standIns := [], harness := (true, "81141e09b3fd4d1f534b97ca45e3227b99ae4508899b47c69da5bed1a4dc6c8a"), looks := false }, kinds := [], alts := [], laidByText := true, laidKinds := [.data], laidTests := true, laidLooks := .later }
def ResumeMeetsCardSaid : Prop := Claim7.holds Tryd.pinned (.plain (OpenSpec.ofChange resumeMeetsSpec)) resumeMeetsCard

/-- THE SECOND FORM's CARD OF 'hindcastlaw21.PacketPuts'. -/
def packetPutsUptoCard : Claim7 := { stood := { row := packetPutsUptoRow, standIns := [], harness := (true, "81141e09b3fd4d1f534b97ca45e3227b99ae4508899b47c69da5bed1a4dc6c8a"), looks := false }, kinds := [], alts := [], laidByText := true, laidKinds := [.data], laidTests := true, laidLooks := .later }
def PacketPutsUptoCardSaid : Prop := Claim7.holds Tryd.pinned (.plain (OpenSpec.upto packetPutsSpec)) packetPutsUptoCard

/-- THE SECOND FORM's CARD OF 'hindcastlaw21.PacketTakes'. -/
def packetTakesUptoCard : Claim7 := { stood := { row := packetTakesUptoRow, standIns := [], harness := (true, "81141e09b3fd4d1f534b97ca45e3227b99ae4508899b47c69da5bed1a4dc6c8a"), looks := false }, kinds := [], alts := [], laidByText := true, laidKinds := [.data], laidTests := true, laidLooks := .later }
def PacketTakesUptoCardSaid : Prop := Claim7.holds Tryd.pinned (.plain (OpenSpec.upto packetTakesSpec)) packetTakesUptoCard

/-- THE SECOND FORM's CARD OF 'hindcastlaw21.PacketKnown'. -/
def packetKnownUptoCard : Claim7 := { stood := { row := packetKnownUptoRow, standIns := [], harness := (true, "81141e09b3fd4d1f534b97ca45e3227b99ae4508899b47c69da5bed1a4dc6c8a"), looks := false }, kinds := [], alts := [], laidByText := true, laidKinds := [.data], laidTests := true, laidLooks := .later }
def PacketKnownUptoCardSaid : Prop := Claim7.holds Tryd.pinned (.plain (OpenSpec.upto packetKnownSpec)) packetKnownUptoCard

/-- THE SECOND FORM's CARD OF 'hindcastlaw21.PacketBack'. -/
def packetBackUptoCard : Claim7 := { stood := { row := packetBackUptoRow, standIns := [], harness := (true, "81141e09b3fd4d1f534b97ca45e3227b99ae4508899b47c69da5bed1a4dc6c8a"), looks := false }, kinds := [], alts := [], laidByText := true, laidKinds := [.data], laidTests := true, laidLooks := .later }
def PacketBackUptoCardSaid : Prop := Claim7.holds Tryd.pinned (.plain (OpenSpec.upto packetBackSpec)) packetBackUptoCard

/-- THE SECOND FORM's CARD OF 'hindcastlaw21.PacketSpoilt'. -/
def packetSpoiltUptoCard : Claim7 := { stood := { row := packetSpoiltUptoRow, standIns := [], harness := (true, "81141e09b3fd4d1f534b97ca45e3227b99ae4508899b47c69da5bed1a4dc6c8a"), looks := false }, kinds := [], alts := [], laidByText := true, laidKinds := [.data], laidTests := true, laidLooks := .later }
def PacketSpoiltUptoCardSaid : Prop := Claim7.holds Tryd.pinned (.plain (OpenSpec.upto packetSpoiltSpec)) packetSpoiltUptoCard

/-- THE SECOND FORM's CARD OF 'hindcastlaw23.LinkDue'. -/
def linkDueUptoCard : Claim7 := { stood := { row := linkDueUptoRow, standIns := [], harness := (true, "81141e09b3fd4d1f534b97ca45e3227b99ae4508899b47c69da5bed1a4dc6c8a"), looks := false }, kinds := [], alts := [], laidByText := true, laidKinds := [.data], laidTests := true, laidLooks := .later }
def LinkDueUptoCardSaid : Prop := Claim7.holds Tryd.pinned (.plain (OpenSpec.upto linkDueSpec)) linkDueUptoCard

/-- THE SECOND FORM's CARD OF 'hindcastlaw23.LinkRises'. -/
def linkRisesUptoCard : Claim7 := { stood := { row := linkRisesUptoRow, standIns := [], harness := (true, "81141e09b3fd4d1f534b97ca45e3227b99ae4508899b47c69da5bed1a4dc6c8a"), looks := false }, kinds := [], alts := [], laidByText := true, laidKinds := [.data], laidTests := true, laidLooks := .later }
def LinkRisesUptoCardSaid : Prop := Claim7.holds Tryd.pinned (.plain (OpenSpec.upto linkRisesSpec)) linkRisesUptoCard

/-- THE SECOND FORM's CARD OF 'hindcastlaw23.LinkPlays'. -/
def linkPlaysUptoCard : Claim7 := { stood := { row := linkPlaysUptoRow, standIns := [], harness := (true, "81141e09b3fd4d1f534b97ca45e3227b99ae4508899b47c69da5bed1a4dc6c8a"), looks := false }, kinds := [], alts := [], laidByText := true, laidKinds := [.data], laidTests := true, laidLooks := .later }
def LinkPlaysUptoCardSaid : Prop := Claim7.holds Tryd.pinned (.plain (OpenSpec.upto linkPlaysSpec)) linkPlaysUptoCard

/-- THE SECOND FORM's CARD OF 'hindcastlaw23.LinkKnown'. -/
def linkKnownUptoCard : Claim7 := { stood := { row := linkKnownUptoRow, standIns := [], harness := (true, "81141e09b3fd4d1f534b97ca45e3227b99ae4508899b47c69da5bed1a4dc6c8a"), looks := false }, kinds := [], alts := [], laidByText := true, laidKinds := [.data], laidTests := true, laidLooks := .later }
def LinkKnownUptoCardSaid : Prop := Claim7.holds Tryd.pinned (.plain (OpenSpec.upto linkKnownSpec)) linkKnownUptoCard

/-- THE SECOND FORM's CARD OF 'hindcastlaw27.ResumeKnows'. -/
def resumeKnowsUptoCard : Claim7 := { stood := { row := resumeKnowsUptoRow, standIns := [], harness := (true, "81141e09b3fd4d1f534b97ca45e3227b99ae4508899b47c69da5bed1a4dc6c8a"), looks := false }, kinds := [], alts := [], laidByText := true, laidKinds := [.data], laidTests := true, laidLooks := .later }
def ResumeKnowsUptoCardSaid : Prop := Claim7.holds Tryd.pinned (.plain (OpenSpec.upto resumeKnowsSpec)) resumeKnowsUptoCard

/-- THE SECOND FORM's CARD OF 'hindcastlaw27.ResumePlays'. -/
def resumePlaysUptoCard : Claim7 := { stood := { row := resumePlaysUptoRow, standIns := [], harness := (true, "81141e09b3fd4d1f534b97ca45e3227b99ae4508899b47c69da5bed1a4dc6c8a"), looks := false }, kinds := [], alts := [], laidByText := true, laidKinds := [.data], laidTests := true, laidLooks := .later }
def ResumePlaysUptoCardSaid : Prop := Claim7.holds Tryd.pinned (.plain (OpenSpec.upto resumePlaysSpec)) resumePlaysUptoCard

/-- THE SECOND FORM's CARD OF 'hindcastlaw27.ResumeKnown'. -/
def resumeKnownUptoCard : Claim7 := { stood := { row := resumeKnownUptoRow, standIns := [], harness := (true, "81141e09b3fd4d1f534b97ca45e3227b99ae4508899b47c69da5bed1a4dc6c8a"), looks := false }, kinds := [], alts := [], laidByText := true, laidKinds := [.data], laidTests := true, laidLooks := .later }
def ResumeKnownUptoCardSaid : Prop := Claim7.holds Tryd.pinned (.plain (OpenSpec.upto resumeKnownSpec)) resumeKnownUptoCard

/-- THE SECOND FORM's CARD OF 'hindcastlaw27.ResumeMeets'. -/
def resumeMeetsUptoCard : Claim7 := { stood := { row := resumeMeetsUptoRow, standIns := [], harness := (true, "81141e09b3fd4d1f534b97ca45e3227b99ae4508899b47c69da5bed1a4dc6c8a"), looks := false }, kinds := [], alts := [], laidByText := true, laidKinds := [.data], laidTests := true, laidLooks := .later }
def ResumeMeetsUptoCardSaid : Prop := Claim7.holds Tryd.pinned (.plain (OpenSpec.upto resumeMeetsSpec)) resumeMeetsUptoCard
end Rows
end Go.Proofs.YtdgbililgkhjfaaDoor
