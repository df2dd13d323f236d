/-
  DERIVED. GIVEN WITH THE SEED: THE CARDS: each row of YtakbdkfgdgkblaaDoorRows.lean that lists a variable, with what it lists TIED to the program's text (the seventh form; the later family's looks); each row that meets fmt, with fmt's text TOLD by the authors' own Lean function (tested against real Go, not proved from fmt's source: count such statements apart). THE CARD IS WHAT COUNTS. Prove the row's statement (the work); the ties are given (YtakbdkfgdgkblaaDoorTie.lean); close each card by the builder's one call (the guide's Derived/Test/ToyasCard.lean, 'card_holds'). Laid BY PROGRAM, IN A SANDBOX (cutbox-door.mjs). By AI agents, Wed Nov 11 2026. No macro, syntax, notation, axiom, sorry.
-/
import Derived.Test.YtakbdkfgdgkblaaDoorRows
import GoSem.ClaimSeven
namespace Go.Proofs.YtakbdkfgdgkblaaDoor
namespace Rows

/-- THE TIED CARD OF 'hindcastlaw03.CrcSums'. -/
def crcSumsCard : Claim7 := { stood := { row := crcSumsRow, standIns := [], harness := (true, "5a0a5d0d703e11ac163e2438e0f7930db58602da4f64ca8aa8ef586778180ef4"), looks := false }, kinds := [], alts := [], laidByText := true, laidKinds := [.data], laidTests := true, laidLooks := .later }
def CrcSumsCardSaid : Prop := Claim7.holds Tryd.pinned (.plain (OpenSpec.ofChange crcSumsSpec)) crcSumsCard

/-- THE TIED CARD OF 'hindcastlaw03.CrcJoins'. -/
def crcJoinsCard : Claim7 := { stood := { row := crcJoinsRow, standIns := [], harness := (true, "5a0a5d0d703e11ac163e2438e0f7930db58602da4f64ca8aa8ef586778180ef4"), looks := false }, kinds := [], alts := [], laidByText := true, laidKinds := [.data], laidTests := true, laidLooks := .later }
def CrcJoinsCardSaid : Prop := Claim7.holds Tryd.pinned (.plain (OpenSpec.ofChange crcJoinsSpec)) crcJoinsCard

/-- THE TIED CARD OF 'hindcastlaw03.CrcKnown'. -/
def crcKnownCard : Claim7 := { stood := { row := crcKnownRow, standIns := [], harness := (true, "5a0a5d0d703e11ac163e2438e0f7930db58602da4f64ca8aa8ef586778180ef4"), looks := false }, kinds := [], alts := [], laidByText := true, laidKinds := [.data], laidTests := true, laidLooks := .later }
def CrcKnownCardSaid : Prop := Claim7.holds Tryd.pinned (.plain (OpenSpec.ofChange crcKnownSpec)) crcKnownCard

/-- THE TIED CARD OF 'hindcastlaw03.CrcParts'. -/
def crcPartsCard : Claim7 := { stood := { row := crcPartsRow, standIns := [], harness := (true, "5a0a5d0d703e11ac163e2438e0f7930db58602da4f64ca8aa8ef586778180ef4"), looks := false }, kinds := [], alts := [], laidByText := true, laidKinds := [.data], laidTests := true, laidLooks := .later }
def CrcPartsCardSaid : Prop := Claim7.holds Tryd.pinned (.plain (OpenSpec.ofChange crcPartsSpec)) crcPartsCard

/-- THE TIED CARD OF 'hindcastlaw03.CrcBurst'. -/
def crcBurstCard : Claim7 := { stood := { row := crcBurstRow, standIns := [], harness := (true, "5a0a5d0d703e11ac163e2438e0f7930db58602da4f64ca8aa8ef586778180ef4"), looks := false }, kinds := [], alts := [], laidByText := true, laidKinds := [.data], laidTests := true, laidLooks := .later }
def CrcBurstCardSaid : Prop := Claim7.holds Tryd.pinned (.plain (OpenSpec.ofChange crcBurstSpec)) crcBurstCard

/-- THE TIED CARD OF 'hindcastlaw03.CrcTail'. -/
def crcTailCard : Claim7 := { stood := { row := crcTailRow, standIns := [], harness := (true, "5a0a5d0d703e11ac163e2438e0f7930db58602da4f64ca8aa8ef586778180ef4"), looks := false }, kinds := [], alts := [], laidByText := true, laidKinds := [.data], laidTests := true, laidLooks := .later }
def CrcTailCardSaid : Prop := Claim7.holds Tryd.pinned (.plain (OpenSpec.ofChange crcTailSpec)) crcTailCard

/-- THE SECOND FORM's CARD OF 'hindcastlaw03.CrcSums'. -/
def crcSumsUptoCard : Claim7 := { stood := { row := crcSumsUptoRow, standIns := [], harness := (true, "5a0a5d0d703e11ac163e2438e0f7930db58602da4f64ca8aa8ef586778180ef4"), looks := false }, kinds := [], alts := [], laidByText := true, laidKinds := [.data], laidTests := true, laidLooks := .later }
def CrcSumsUptoCardSaid : Prop := Claim7.holds Tryd.pinned (.plain (OpenSpec.upto crcSumsSpec)) crcSumsUptoCard

/-- THE SECOND FORM's CARD OF 'hindcastlaw03.CrcJoins'. -/
def crcJoinsUptoCard : Claim7 := { stood := { row := crcJoinsUptoRow, standIns := [], harness := (true, "5a0a5d0d703e11ac163e2438e0f7930db58602da4f64ca8aa8ef586778180ef4"), looks := false }, kinds := [], alts := [], laidByText := true, laidKinds := [.data], laidTests := true, laidLooks := .later }
def CrcJoinsUptoCardSaid : Prop := Claim7.holds Tryd.pinned (.plain (OpenSpec.upto crcJoinsSpec)) crcJoinsUptoCard

/-- THE SECOND FORM's CARD OF 'hindcastlaw03.CrcKnown'. -/
def crcKnownUptoCard : Claim7 := { stood := { row := crcKnownUptoRow, standIns := [], harness := (true, "5a0a5d0d703e11ac163e2438e0f7930db58602da4f64ca8aa8ef586778180ef4"), looks := false }, kinds := [], alts := [], laidByText := true, laidKinds := [.data], laidTests := true, laidLooks := .later }
def CrcKnownUptoCardSaid : Prop := Claim7.holds Tryd.pinned (.plain (OpenSpec.upto crcKnownSpec)) crcKnownUptoCard

/-- THE SECOND FORM's CARD OF 'hindcastlaw03.CrcParts'. -/
def crcPartsUptoCard : Claim7 := { stood := { row := crcPartsUptoRow, standIns := [], harness := (true, "5a0a5d0d703e11ac163e2438e0f7930db58602da4f64ca8aa8ef586778180ef4"), looks := false }, kinds := [], alts := [], laidByText := true, laidKinds := [.data], laidTests := true, laidLooks := .later }
def CrcPartsUptoCardSaid : Prop := Claim7.holds Tryd.pinned (.plain (OpenSpec.upto crcPartsSpec)) crcPartsUptoCard

/-- THE SECOND FORM's CARD OF 'hindcastlaw03.CrcBurst'. -/
def crcBurstUptoCard : Claim7 := { stood := { row := crcBurstUptoRow, standIns := [], harness := (true, "5a0a5d0d703e11ac163e2438e0f7930db58602da4f64ca8aa8ef586778180ef4"), looks := false }, kinds := [], alts := [], laidByText := true, laidKinds := [.data], laidTests := true, laidLooks := .later }
def CrcBurstUptoCardSaid : Prop := Claim7.holds Tryd.pinned (.plain (OpenSpec.upto crcBurstSpec)) crcBurstUptoCard

/-- THE SECOND FORM's CARD OF 'hindcastlaw03.CrcTail'. -/
def crcTailUptoCard : Claim7 := { stood := { row := crcTailUptoRow, standIns := [], harness := (true, "5a0a5d0d703e11ac163e2438e0f7930db58602da4f64ca8aa8ef586778180ef4"), looks := false }, kinds := [], alts := [], laidByText := true, laidKinds := [.data], laidTests := true, laidLooks := .later }
def CrcTailUptoCardSaid : Prop := Claim7.holds Tryd.pinned (.plain (OpenSpec.upto crcTailSpec)) crcTailUptoCard
end Rows
end Go.Proofs.YtakbdkfgdgkblaaDoor
