/-
  NARROWER THAN 'FOR EVERY INPUT', by the rows' own cells (each row's printed sentence says how): PacketPuts: laid · PacketTakes: laid · PacketKnown: laid · PacketBack: laid · PacketSpoilt: laid · LinkDue: laid · LinkRises: laid · LinkPlays: laid · LinkKnown: laid · ResumeKnows: laid · ResumePlays: laid · ResumeKnown: laid · ResumeMeets: laid.
  DERIVED. THE GIVEN ROWS OF THIS SEAT. 13 by the template 'for every input the law returns true; each argument reads behind the call as it read before'; 0 by the template 'total and deterministic' (their statements: YtdgbililgkhjfaaDoorTotals.lean).
  GIVEN WITH THE SEED: the statements are not yours to turn. If you find one false, say at which input.
  Laid BY PROGRAM, IN A SANDBOX (cutbox-rows.mjs): the forced cells as the released guide's own fill.sh prints them over the translation 65995bf2d3beb4c1… (all of the seat's roots in one cut). By AI agents, Wed Nov 11 2026. No macro, syntax, notation, axiom, sorry.
-/
import Derived.Test.YtdgbililgkhjfaaDoorChecked
import GoSem.Claim
import GoSem.ClaimJoined
import GoSem.ClaimMapViews
import Derived.JoinedTies
import Derived.KernelRfl
namespace Go.Proofs.YtdgbililgkhjfaaDoor
/- THE CELL 'sum', in the pinned program and in every row, IS THE sha256 OF THE DUMP (.gsa) THAT YtdgbililgkhjfaaDoorProg.lean LOADS. Nothing in Lean hashes anything: it is a label: what it is worth is what the hold of that sum in a sandbox is worth. -/
noncomputable def Tryd.pinned : Pinned := { name := "ytdgbililgkhjfaadoor", sum := "65995bf2d3beb4c10115fa54924d9532c2e656d3610ca7105a95528aaa602ed0", checked := Tryd.checked }
namespace Rows
def none {H : Type} : Left H := { results := [], args := [] }

/- WHAT THE LISTED PACKAGE-LEVEL VARIABLES READ AS WHEN THE CALL BEGINS. Each datum BY PROGRAM (the guide's laid-datum.mjs) off the statement by which the dump's own 'gosem.cut.vars' lays the variable. In a bare row this is a premise. The card (YtdgbililgkhjfaaDoorCards.lean) ties it to the program's text. -/
def laid_hindcast_crc_steps {H : Type} : DataW H := .agg [.lit (.int .u32 0), .lit (.int .u32 498536548), .lit (.int .u32 997073096), .lit (.int .u32 651767980), .lit (.int .u32 1994146192), .lit (.int .u32 1802195444), .lit (.int .u32 1303535960), .lit (.int .u32 1342533948), .lit (.int .u32 3988292384), .lit (.int .u32 4027552580), .lit (.int .u32 3604390888), .lit (.int .u32 3412177804), .lit (.int .u32 2607071920), .lit (.int .u32 2262029012), .lit (.int .u32 2685067896), .lit (.int .u32 3183342108)]

/-- 'hindcastlaw21.PacketPuts': WHATEVER THE INPUT: true; the input reads as it did. -/
def packetPutsSpec : ChangeSpec := { name := "packetPuts", fn := fun _ => fun
  | [d1, d2] => { results := [.lit (.bool true)], args := [d1, d2] }
  | _ => none }
def packetPutsRow : OpenClaim := { program := "ytdgbililgkhjfaadoor", sum := "65995bf2d3beb4c10115fa54924d9532c2e656d3610ca7105a95528aaa602ed0", func := "hindcast/hindcastlaw21.PacketPuts", spec := "packetPuts", unfollowed := true, recurses := true, named := ["hindcast/crc.steps"], apart := false, laid := [("hindcast/crc.steps", laid_hindcast_crc_steps)] }
def PacketPutsSaid : Prop := packetPutsRow.holds Tryd.pinned (OpenSpec.ofChange packetPutsSpec)

/-- ITS FALSE NEIGHBOUR: 'it returns false'. Refute it at one input. -/
def packetPutsWrong : ChangeSpec := { name := "packetPuts", fn := fun _ => fun
  | [d1, d2] => { results := [.lit (.bool false)], args := [d1, d2] }
  | _ => none }
def PacketPutsWrongFalsely : Prop := packetPutsRow.holds Tryd.pinned (OpenSpec.ofChange packetPutsWrong)

/-- 'hindcastlaw21.PacketTakes': WHATEVER THE INPUT: true; the input reads as it did. -/
def packetTakesSpec : ChangeSpec := { name := "packetTakes", fn := fun _ => fun
  | [d] => { results := [.lit (.bool true)], args := [d] }
  | _ => none }
def packetTakesRow : OpenClaim := { program := "ytdgbililgkhjfaadoor", sum := "65995bf2d3beb4c10115fa54924d9532c2e656d3610ca7105a95528aaa602ed0", func := "hindcast/hindcastlaw21.PacketTakes", spec := "packetTakes", unfollowed := true, recurses := true, named := ["hindcast/crc.steps"], apart := false, laid := [("hindcast/crc.steps", laid_hindcast_crc_steps)] }
def PacketTakesSaid : Prop := packetTakesRow.holds Tryd.pinned (OpenSpec.ofChange packetTakesSpec)

/-- ITS FALSE NEIGHBOUR: 'it returns false'. Refute it at one input. -/
def packetTakesWrong : ChangeSpec := { name := "packetTakes", fn := fun _ => fun
  | [d] => { results := [.lit (.bool false)], args := [d] }
  | _ => none }
def PacketTakesWrongFalsely : Prop := packetTakesRow.holds Tryd.pinned (OpenSpec.ofChange packetTakesWrong)

/-- 'hindcastlaw21.PacketKnown': WHATEVER THE INPUT: true; the input reads as it did. -/
def packetKnownSpec : ChangeSpec := { name := "packetKnown", fn := fun _ => fun
  | [] => { results := [.lit (.bool true)], args := [] }
  | _ => none }
def packetKnownRow : OpenClaim := { program := "ytdgbililgkhjfaadoor", sum := "65995bf2d3beb4c10115fa54924d9532c2e656d3610ca7105a95528aaa602ed0", func := "hindcast/hindcastlaw21.PacketKnown", spec := "packetKnown", unfollowed := true, recurses := true, named := ["hindcast/crc.steps"], apart := false, laid := [("hindcast/crc.steps", laid_hindcast_crc_steps)] }
def PacketKnownSaid : Prop := packetKnownRow.holds Tryd.pinned (OpenSpec.ofChange packetKnownSpec)

/-- ITS FALSE NEIGHBOUR: 'it returns false'. Refute it at one input. -/
def packetKnownWrong : ChangeSpec := { name := "packetKnown", fn := fun _ => fun
  | [] => { results := [.lit (.bool false)], args := [] }
  | _ => none }
def PacketKnownWrongFalsely : Prop := packetKnownRow.holds Tryd.pinned (OpenSpec.ofChange packetKnownWrong)

/-- 'hindcastlaw21.PacketBack': WHATEVER THE INPUT: true; the input reads as it did. -/
def packetBackSpec : ChangeSpec := { name := "packetBack", fn := fun _ => fun
  | [d1, d2] => { results := [.lit (.bool true)], args := [d1, d2] }
  | _ => none }
def packetBackRow : OpenClaim := { program := "ytdgbililgkhjfaadoor", sum := "65995bf2d3beb4c10115fa54924d9532c2e656d3610ca7105a95528aaa602ed0", func := "hindcast/hindcastlaw21.PacketBack", spec := "packetBack", unfollowed := true, recurses := true, named := ["hindcast/crc.steps"], apart := false, laid := [("hindcast/crc.steps", laid_hindcast_crc_steps)] }
def PacketBackSaid : Prop := packetBackRow.holds Tryd.pinned (OpenSpec.ofChange packetBackSpec)

/-- ITS FALSE NEIGHBOUR: 'it returns false'. Refute it at one input. -/
def packetBackWrong : ChangeSpec := { name := "packetBack", fn := fun _ => fun
  | [d1, d2] => { results := [.lit (.bool false)], args := [d1, d2] }
  | _ => none }
def PacketBackWrongFalsely : Prop := packetBackRow.holds Tryd.pinned (OpenSpec.ofChange packetBackWrong)

/-- 'hindcastlaw21.PacketSpoilt': WHATEVER THE INPUT: true; the input reads as it did. -/
def packetSpoiltSpec : ChangeSpec := { name := "packetSpoilt", fn := fun _ => fun
  | [d1, d2, d3] => { results := [.lit (.bool true)], args := [d1, d2, d3] }
  | _ => none }
def packetSpoiltRow : OpenClaim := { program := "ytdgbililgkhjfaadoor", sum := "65995bf2d3beb4c10115fa54924d9532c2e656d3610ca7105a95528aaa602ed0", func := "hindcast/hindcastlaw21.PacketSpoilt", spec := "packetSpoilt", unfollowed := true, recurses := true, named := ["hindcast/crc.steps"], apart := false, laid := [("hindcast/crc.steps", laid_hindcast_crc_steps)] }
def PacketSpoiltSaid : Prop := packetSpoiltRow.holds Tryd.pinned (OpenSpec.ofChange packetSpoiltSpec)

/-- ITS FALSE NEIGHBOUR: 'it returns false'. Refute it at one input. -/
def packetSpoiltWrong : ChangeSpec := { name := "packetSpoilt", fn := fun _ => fun
  | [d1, d2, d3] => { results := [.lit (.bool false)], args := [d1, d2, d3] }
  | _ => none }
def PacketSpoiltWrongFalsely : Prop := packetSpoiltRow.holds Tryd.pinned (OpenSpec.ofChange packetSpoiltWrong)

/-- 'hindcastlaw23.LinkDue': WHATEVER THE INPUT: true; the input reads as it did. -/
def linkDueSpec : ChangeSpec := { name := "linkDue", fn := fun _ => fun
  | [d1, d2] => { results := [.lit (.bool true)], args := [d1, d2] }
  | _ => none }
def linkDueRow : OpenClaim := { program := "ytdgbililgkhjfaadoor", sum := "65995bf2d3beb4c10115fa54924d9532c2e656d3610ca7105a95528aaa602ed0", func := "hindcast/hindcastlaw23.LinkDue", spec := "linkDue", unfollowed := true, recurses := true, named := ["hindcast/crc.steps"], apart := false, laid := [("hindcast/crc.steps", laid_hindcast_crc_steps)] }
def LinkDueSaid : Prop := linkDueRow.holds Tryd.pinned (OpenSpec.ofChange linkDueSpec)

/-- ITS FALSE NEIGHBOUR: 'it returns false'. Refute it at one input. -/
def linkDueWrong : ChangeSpec := { name := "linkDue", fn := fun _ => fun
  | [d1, d2] => { results := [.lit (.bool false)], args := [d1, d2] }
  | _ => none }
def LinkDueWrongFalsely : Prop := linkDueRow.holds Tryd.pinned (OpenSpec.ofChange linkDueWrong)

/-- 'hindcastlaw23.LinkRises': WHATEVER THE INPUT: true; the input reads as it did. -/
def linkRisesSpec : ChangeSpec := { name := "linkRises", fn := fun _ => fun
  | [d1, d2] => { results := [.lit (.bool true)], args := [d1, d2] }
  | _ => none }
def linkRisesRow : OpenClaim := { program := "ytdgbililgkhjfaadoor", sum := "65995bf2d3beb4c10115fa54924d9532c2e656d3610ca7105a95528aaa602ed0", func := "hindcast/hindcastlaw23.LinkRises", spec := "linkRises", unfollowed := true, recurses := true, named := ["hindcast/crc.steps"], apart := false, laid := [("hindcast/crc.steps", laid_hindcast_crc_steps)] }
def LinkRisesSaid : Prop := linkRisesRow.holds Tryd.pinned (OpenSpec.ofChange linkRisesSpec)

/-- ITS FALSE NEIGHBOUR: 'it returns false'. Refute it at one input. -/
def linkRisesWrong : ChangeSpec := { name := "linkRises", fn := fun _ => fun
  | [d1, d2] => { results := [.lit (.bool false)], args := [d1, d2] }
  | _ => none }
def LinkRisesWrongFalsely : Prop := linkRisesRow.holds Tryd.pinned (OpenSpec.ofChange linkRisesWrong)

/-- 'hindcastlaw23.LinkPlays': WHATEVER THE INPUT: true; the input reads as it did. -/
def linkPlaysSpec : ChangeSpec := { name := "linkPlays", fn := fun _ => fun
  | [d1, d2, d3] => { results := [.lit (.bool true)], args := [d1, d2, d3] }
  | _ => none }
def linkPlaysRow : OpenClaim := { program := "ytdgbililgkhjfaadoor", sum := "65995bf2d3beb4c10115fa54924d9532c2e656d3610ca7105a95528aaa602ed0", func := "hindcast/hindcastlaw23.LinkPlays", spec := "linkPlays", unfollowed := true, recurses := true, named := ["hindcast/crc.steps"], apart := false, laid := [("hindcast/crc.steps", laid_hindcast_crc_steps)] }
def LinkPlaysSaid : Prop := linkPlaysRow.holds Tryd.pinned (OpenSpec.ofChange linkPlaysSpec)

/-- ITS FALSE NEIGHBOUR: 'it returns false'. Refute it at one input. -/
def linkPlaysWrong : ChangeSpec := { name := "linkPlays", fn := fun _ => fun
  | [d1, d2, d3] => { results := [.lit (.bool false)], args := [d1, d2, d3] }
  | _ => none }
def LinkPlaysWrongFalsely : Prop := linkPlaysRow.holds Tryd.pinned (OpenSpec.ofChange linkPlaysWrong)

/-- 'hindcastlaw23.LinkKnown': WHATEVER THE INPUT: true; the input reads as it did. -/
def linkKnownSpec : ChangeSpec := { name := "linkKnown", fn := fun _ => fun
  | [] => { results := [.lit (.bool true)], args := [] }
  | _ => none }
def linkKnownRow : OpenClaim := { program := "ytdgbililgkhjfaadoor", sum := "65995bf2d3beb4c10115fa54924d9532c2e656d3610ca7105a95528aaa602ed0", func := "hindcast/hindcastlaw23.LinkKnown", spec := "linkKnown", unfollowed := true, recurses := true, named := ["hindcast/crc.steps"], apart := false, laid := [("hindcast/crc.steps", laid_hindcast_crc_steps)] }
def LinkKnownSaid : Prop := linkKnownRow.holds Tryd.pinned (OpenSpec.ofChange linkKnownSpec)

/-- ITS FALSE NEIGHBOUR: 'it returns false'. Refute it at one input. -/
def linkKnownWrong : ChangeSpec := { name := "linkKnown", fn := fun _ => fun
  | [] => { results := [.lit (.bool false)], args := [] }
  | _ => none }
def LinkKnownWrongFalsely : Prop := linkKnownRow.holds Tryd.pinned (OpenSpec.ofChange linkKnownWrong)

/-- 'hindcastlaw27.ResumeKnows': WHATEVER THE INPUT: true; the input reads as it did. -/
def resumeKnowsSpec : ChangeSpec := { name := "resumeKnows", fn := fun _ => fun
  | [d1, d2] => { results := [.lit (.bool true)], args := [d1, d2] }
  | _ => none }
def resumeKnowsRow : OpenClaim := { program := "ytdgbililgkhjfaadoor", sum := "65995bf2d3beb4c10115fa54924d9532c2e656d3610ca7105a95528aaa602ed0", func := "hindcast/hindcastlaw27.ResumeKnows", spec := "resumeKnows", unfollowed := true, recurses := true, named := ["hindcast/crc.steps"], apart := false, laid := [("hindcast/crc.steps", laid_hindcast_crc_steps)] }
def ResumeKnowsSaid : Prop := resumeKnowsRow.holds Tryd.pinned (OpenSpec.ofChange resumeKnowsSpec)

/-- ITS FALSE NEIGHBOUR: 'it returns false'. Refute it at one input. -/
def resumeKnowsWrong : ChangeSpec := { name := "resumeKnows", fn := fun _ => fun
  | [d1, d2] => { results := [.lit (.bool false)], args := [d1, d2] }
  | _ => none }
def ResumeKnowsWrongFalsely : Prop := resumeKnowsRow.holds Tryd.pinned (OpenSpec.ofChange resumeKnowsWrong)

/-- 'hindcastlaw27.ResumePlays': WHATEVER THE INPUT: true; the input reads as it did. -/
def resumePlaysSpec : ChangeSpec := { name := "resumePlays", fn := fun _ => fun
  | [d1, d2, d3] => { results := [.lit (.bool true)], args := [d1, d2, d3] }
  | _ => none }
def resumePlaysRow : OpenClaim := { program := "ytdgbililgkhjfaadoor", sum := "65995bf2d3beb4c10115fa54924d9532c2e656d3610ca7105a95528aaa602ed0", func := "hindcast/hindcastlaw27.ResumePlays", spec := "resumePlays", unfollowed := true, recurses := true, named := ["hindcast/crc.steps"], apart := false, laid := [("hindcast/crc.steps", laid_hindcast_crc_steps)] }
def ResumePlaysSaid : Prop := resumePlaysRow.holds Tryd.pinned (OpenSpec.ofChange resumePlaysSpec)

/-- ITS FALSE NEIGHBOUR: 'it returns false'. Refute it at one input. -/
def resumePlaysWrong : ChangeSpec := { name := "resumePlays", fn := fun _ => fun
  | [d1, d2, d3] => { results := [.lit (.bool false)], args := [d1, d2, d3] }
  | _ => none }
def ResumePlaysWrongFalsely : Prop := resumePlaysRow.holds Tryd.pinned (OpenSpec.ofChange resumePlaysWrong)

/-- 'hindcastlaw27.ResumeKnown': WHATEVER THE INPUT: true; the input reads as it did. -/
def resumeKnownSpec : ChangeSpec := { name := "resumeKnown", fn := fun _ => fun
  | [] => { results := [.lit (.bool true)], args := [] }
  | _ => none }
def resumeKnownRow : OpenClaim := { program := "ytdgbililgkhjfaadoor", sum := "65995bf2d3beb4c10115fa54924d9532c2e656d3610ca7105a95528aaa602ed0", func := "hindcast/hindcastlaw27.ResumeKnown", spec := "resumeKnown", unfollowed := true, recurses := true, named := ["hindcast/crc.steps"], apart := false, laid := [("hindcast/crc.steps", laid_hindcast_crc_steps)] }
def ResumeKnownSaid : Prop := resumeKnownRow.holds Tryd.pinned (OpenSpec.ofChange resumeKnownSpec)

/-- ITS FALSE NEIGHBOUR: 'it returns false'. Refute it at one input. -/
def resumeKnownWrong : ChangeSpec := { name := "resumeKnown", fn := fun _ => fun
  | [] => { results := [.lit (.bool false)], args := [] }
  | _ => none }
def ResumeKnownWrongFalsely : Prop := resumeKnownRow.holds Tryd.pinned (OpenSpec.ofChange resumeKnownWrong)

/-- 'hindcastlaw27.ResumeMeets': WHATEVER THE INPUT: true; the input reads as it did. -/
def resumeMeetsSpec : ChangeSpec := { name := "resumeMeets", fn := fun _ => fun
  | [d1, d2, d3] => { results := [.lit (.bool true)], args := [d1, d2, d3] }
  | _ => none }
def resumeMeetsRow : OpenClaim := { program := "ytdgbililgkhjfaadoor", sum := "65995bf2d3beb4c10115fa54924d9532c2e656d3610ca7105a95528aaa602ed0", func := "hindcast/hindcastlaw27.ResumeMeets", spec := "resumeMeets", unfollowed := true, recurses := true, named := ["hindcast/crc.steps"], apart := false, laid := [("hindcast/crc.steps", laid_hindcast_crc_steps)] }
def ResumeMeetsSaid : Prop := resumeMeetsRow.holds Tryd.pinned (OpenSpec.ofChange resumeMeetsSpec)

/-- ITS FALSE NEIGHBOUR: 'it returns false'. Refute it at one input. -/
def resumeMeetsWrong : ChangeSpec := { name := "resumeMeets", fn := fun _ => fun
  | [d1, d2, d3] => { results := [.lit (.bool false)], args := [d1, d2, d3] }
  | _ => none }
def ResumeMeetsWrongFalsely : Prop := resumeMeetsRow.holds Tryd.pinned (OpenSpec.ofChange resumeMeetsWrong)

/- THE SECOND FORM. 'bulk': how many values and letters a reading holds, each counted each time it is reached (what is shared counts as often as it is met; a slice's spare places count too). A statement '..UptoSaid' is the law's where the arguments, and the package variables that the reading takes, are together of bulk at most 1048576: NARROWER than '..Said'. Prove '..Said' where nothing that the law and all that it calls make is longer than what came in: it says more and counts as full. Else prove '..UptoSaid'. A law counts once. -/
mutual
def uptoBulk {H : Type} : DataW H → Nat
  | .lit (.string bytes) => bytes.length + 1
  | .lit _ => 1
  | .nil => 1
  | .ptr d => uptoBulk d + 1
  | .slice elems spare => uptoBulkAll elems + uptoBulkAll spare + 1
  | .agg parts => uptoBulkAll parts + 1
  | .iface _ d => uptoBulk d + 1
  | .map entries => uptoBulkEntries entries + 1
  | .held _ => 1
def uptoBulkAll {H : Type} : List (DataW H) → Nat
  | [] => 0
  | d :: r => uptoBulk d + uptoBulkAll r
def uptoBulkEntries {H : Type} : List (Lit × DataW H) → Nat
  | [] => 0
  | x :: r => uptoBulkEntry x + uptoBulkEntries r
def uptoBulkEntry {H : Type} : Lit × DataW H → Nat
  | (.string bytes, d) => bytes.length + uptoBulk d + 1
  | (_, d) => uptoBulk d + 1
 end
def uptoSmall : (H : Type) → List (DataW H) → Bool := fun _ ds => decide (uptoBulkAll ds ≤ 1048576)
def OpenSpec.upto (s : _root_.Go.ChangeSpec) : _root_.Go.OpenSpec := { _root_.Go.OpenSpec.ofChange s with cond := some uptoSmall }

/-- 'hindcastlaw21.PacketPuts', WHERE WHAT IT READS IS OF BULK AT MOST 1048576: true; the input reads as it did. -/
def packetPutsUptoRow : OpenClaim := { program := "ytdgbililgkhjfaadoor", sum := "65995bf2d3beb4c10115fa54924d9532c2e656d3610ca7105a95528aaa602ed0", func := "hindcast/hindcastlaw21.PacketPuts", spec := "packetPuts", unfollowed := true, recurses := true, named := ["hindcast/crc.steps"], apart := false, laid := [("hindcast/crc.steps", laid_hindcast_crc_steps)], narrowed := true }
def PacketPutsUptoSaid : Prop := packetPutsUptoRow.holds Tryd.pinned (OpenSpec.upto packetPutsSpec)

/-- 'hindcastlaw21.PacketTakes', WHERE WHAT IT READS IS OF BULK AT MOST 1048576: true; the input reads as it did. -/
def packetTakesUptoRow : OpenClaim := { program := "ytdgbililgkhjfaadoor", sum := "65995bf2d3beb4c10115fa54924d9532c2e656d3610ca7105a95528aaa602ed0", func := "hindcast/hindcastlaw21.PacketTakes", spec := "packetTakes", unfollowed := true, recurses := true, named := ["hindcast/crc.steps"], apart := false, laid := [("hindcast/crc.steps", laid_hindcast_crc_steps)], narrowed := true }
def PacketTakesUptoSaid : Prop := packetTakesUptoRow.holds Tryd.pinned (OpenSpec.upto packetTakesSpec)

/-- 'hindcastlaw21.PacketKnown', WHERE WHAT IT READS IS OF BULK AT MOST 1048576: true; the input reads as it did. -/
def packetKnownUptoRow : OpenClaim := { program := "ytdgbililgkhjfaadoor", sum := "65995bf2d3beb4c10115fa54924d9532c2e656d3610ca7105a95528aaa602ed0", func := "hindcast/hindcastlaw21.PacketKnown", spec := "packetKnown", unfollowed := true, recurses := true, named := ["hindcast/crc.steps"], apart := false, laid := [("hindcast/crc.steps", laid_hindcast_crc_steps)], narrowed := true }
def PacketKnownUptoSaid : Prop := packetKnownUptoRow.holds Tryd.pinned (OpenSpec.upto packetKnownSpec)

/-- 'hindcastlaw21.PacketBack', WHERE WHAT IT READS IS OF BULK AT MOST 1048576: true; the input reads as it did. -/
def packetBackUptoRow : OpenClaim := { program := "ytdgbililgkhjfaadoor", sum := "65995bf2d3beb4c10115fa54924d9532c2e656d3610ca7105a95528aaa602ed0", func := "hindcast/hindcastlaw21.PacketBack", spec := "packetBack", unfollowed := true, recurses := true, named := ["hindcast/crc.steps"], apart := false, laid := [("hindcast/crc.steps", laid_hindcast_crc_steps)], narrowed := true }
def PacketBackUptoSaid : Prop := packetBackUptoRow.holds Tryd.pinned (OpenSpec.upto packetBackSpec)

/-- 'hindcastlaw21.PacketSpoilt', WHERE WHAT IT READS IS OF BULK AT MOST 1048576: true; the input reads as it did. -/
def packetSpoiltUptoRow : OpenClaim := { program := "ytdgbililgkhjfaadoor", sum := "65995bf2d3beb4c10115fa54924d9532c2e656d3610ca7105a95528aaa602ed0", func := "hindcast/hindcastlaw21.PacketSpoilt", spec := "packetSpoilt", unfollowed := true, recurses := true, named := ["hindcast/crc.steps"], apart := false, laid := [("hindcast/crc.steps", laid_hindcast_crc_steps)], narrowed := true }
def PacketSpoiltUptoSaid : Prop := packetSpoiltUptoRow.holds Tryd.pinned (OpenSpec.upto packetSpoiltSpec)

/-- 'hindcastlaw23.LinkDue', WHERE WHAT IT READS IS OF BULK AT MOST 1048576: true; the input reads as it did. -/
def linkDueUptoRow : OpenClaim := { program := "ytdgbililgkhjfaadoor", sum := "65995bf2d3beb4c10115fa54924d9532c2e656d3610ca7105a95528aaa602ed0", func := "hindcast/hindcastlaw23.LinkDue", spec := "linkDue", unfollowed := true, recurses := true, named := ["hindcast/crc.steps"], apart := false, laid := [("hindcast/crc.steps", laid_hindcast_crc_steps)], narrowed := true }
def LinkDueUptoSaid : Prop := linkDueUptoRow.holds Tryd.pinned (OpenSpec.upto linkDueSpec)

/-- 'hindcastlaw23.LinkRises', WHERE WHAT IT READS IS OF BULK AT MOST 1048576: true; the input reads as it did. -/
def linkRisesUptoRow : OpenClaim := { program := "ytdgbililgkhjfaadoor", sum := "65995bf2d3beb4c10115fa54924d9532c2e656d3610ca7105a95528aaa602ed0", func := "hindcast/hindcastlaw23.LinkRises", spec := "linkRises", unfollowed := true, recurses := true, named := ["hindcast/crc.steps"], apart := false, laid := [("hindcast/crc.steps", laid_hindcast_crc_steps)], narrowed := true }
def LinkRisesUptoSaid : Prop := linkRisesUptoRow.holds Tryd.pinned (OpenSpec.upto linkRisesSpec)

/-- 'hindcastlaw23.LinkPlays', WHERE WHAT IT READS IS OF BULK AT MOST 1048576: true; the input reads as it did. -/
def linkPlaysUptoRow : OpenClaim := { program := "ytdgbililgkhjfaadoor", sum := "65995bf2d3beb4c10115fa54924d9532c2e656d3610ca7105a95528aaa602ed0", func := "hindcast/hindcastlaw23.LinkPlays", spec := "linkPlays", unfollowed := true, recurses := true, named := ["hindcast/crc.steps"], apart := false, laid := [("hindcast/crc.steps", laid_hindcast_crc_steps)], narrowed := true }
def LinkPlaysUptoSaid : Prop := linkPlaysUptoRow.holds Tryd.pinned (OpenSpec.upto linkPlaysSpec)

/-- 'hindcastlaw23.LinkKnown', WHERE WHAT IT READS IS OF BULK AT MOST 1048576: true; the input reads as it did. -/
def linkKnownUptoRow : OpenClaim := { program := "ytdgbililgkhjfaadoor", sum := "65995bf2d3beb4c10115fa54924d9532c2e656d3610ca7105a95528aaa602ed0", func := "hindcast/hindcastlaw23.LinkKnown", spec := "linkKnown", unfollowed := true, recurses := true, named := ["hindcast/crc.steps"], apart := false, laid := [("hindcast/crc.steps", laid_hindcast_crc_steps)], narrowed := true }
def LinkKnownUptoSaid : Prop := linkKnownUptoRow.holds Tryd.pinned (OpenSpec.upto linkKnownSpec)

/-- 'hindcastlaw27.ResumeKnows', WHERE WHAT IT READS IS OF BULK AT MOST 1048576: true; the input reads as it did. -/
def resumeKnowsUptoRow : OpenClaim := { program := "ytdgbililgkhjfaadoor", sum := "65995bf2d3beb4c10115fa54924d9532c2e656d3610ca7105a95528aaa602ed0", func := "hindcast/hindcastlaw27.ResumeKnows", spec := "resumeKnows", unfollowed := true, recurses := true, named := ["hindcast/crc.steps"], apart := false, laid := [("hindcast/crc.steps", laid_hindcast_crc_steps)], narrowed := true }
def ResumeKnowsUptoSaid : Prop := resumeKnowsUptoRow.holds Tryd.pinned (OpenSpec.upto resumeKnowsSpec)

/-- 'hindcastlaw27.ResumePlays', WHERE WHAT IT READS IS OF BULK AT MOST 1048576: true; the input reads as it did. -/
def resumePlaysUptoRow : OpenClaim := { program := "ytdgbililgkhjfaadoor", sum := "65995bf2d3beb4c10115fa54924d9532c2e656d3610ca7105a95528aaa602ed0", func := "hindcast/hindcastlaw27.ResumePlays", spec := "resumePlays", unfollowed := true, recurses := true, named := ["hindcast/crc.steps"], apart := false, laid := [("hindcast/crc.steps", laid_hindcast_crc_steps)], narrowed := true }
def ResumePlaysUptoSaid : Prop := resumePlaysUptoRow.holds Tryd.pinned (OpenSpec.upto resumePlaysSpec)

/-- 'hindcastlaw27.ResumeKnown', WHERE WHAT IT READS IS OF BULK AT MOST 1048576: true; the input reads as it did. -/
def resumeKnownUptoRow : OpenClaim := { program := "ytdgbililgkhjfaadoor", sum := "65995bf2d3beb4c10115fa54924d9532c2e656d3610ca7105a95528aaa602ed0", func := "hindcast/hindcastlaw27.ResumeKnown", spec := "resumeKnown", unfollowed := true, recurses := true, named := ["hindcast/crc.steps"], apart := false, laid := [("hindcast/crc.steps", laid_hindcast_crc_steps)], narrowed := true }
def ResumeKnownUptoSaid : Prop := resumeKnownUptoRow.holds Tryd.pinned (OpenSpec.upto resumeKnownSpec)

/-- 'hindcastlaw27.ResumeMeets', WHERE WHAT IT READS IS OF BULK AT MOST 1048576: true; the input reads as it did. -/
def resumeMeetsUptoRow : OpenClaim := { program := "ytdgbililgkhjfaadoor", sum := "65995bf2d3beb4c10115fa54924d9532c2e656d3610ca7105a95528aaa602ed0", func := "hindcast/hindcastlaw27.ResumeMeets", spec := "resumeMeets", unfollowed := true, recurses := true, named := ["hindcast/crc.steps"], apart := false, laid := [("hindcast/crc.steps", laid_hindcast_crc_steps)], narrowed := true }
def ResumeMeetsUptoSaid : Prop := resumeMeetsUptoRow.holds Tryd.pinned (OpenSpec.upto resumeMeetsSpec)

end Rows
end Go.Proofs.YtdgbililgkhjfaaDoor
