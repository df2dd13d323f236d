/- The chapter's examples. A closed statement. -/
import Derived.Test.YtiflfafniciebaaPFixedKnownx2
import Derived.Test.YtiflfafniciebaaMath
namespace Go.Proofs.Ytiflfafniciebaa.Pure
namespace FixedKnownParts
open Go.RowKit Go.Proofs.Ytiflfafniciebaa.PFixedKnown Go.Proofs.YtiflfafniciebaaW.PrintWords Go.Proofs.YtiflfafniciebaaW.PrintLast Go.Proofs.Ytiflfafniciebaa.FixMath

end FixedKnownParts
open Go.RowKit Go.Proofs.Ytiflfafniciebaa.PFixedKnown Go.Proofs.YtiflfafniciebaaW.PrintWords Go.Proofs.YtiflfafniciebaaW.PrintLast Go.Proofs.Ytiflfafniciebaa.FixMath FixedKnownParts

theorem FixedKnown : hindcastlaw01_FixedKnown.Pure := ⟨40, by decide +kernel⟩

end Go.Proofs.Ytiflfafniciebaa.Pure
