import Derived.Test.YtibphkgcdnconaaWInv
import Derived.Test.YtibphkgcdnconaaWFootNe
namespace Go.Proofs.YtibphkgcdnconaaW.PrintWords
open Go.RowKit
end Go.Proofs.YtibphkgcdnconaaW.PrintWords
namespace Go.Proofs.YtibphkgcdnconaaW.PrintLast
section
variable {ops : Array Oper} {a : Act} {o og : Oper} {g : Nat} {t : Tmp} {u : Bool}
end
end Go.Proofs.YtibphkgcdnconaaW.PrintLast
