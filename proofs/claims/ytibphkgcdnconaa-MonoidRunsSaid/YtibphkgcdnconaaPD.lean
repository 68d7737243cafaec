/- Monoids: the examples. -/
import Derived.Test.YtibphkgcdnconaaXPlain
import Derived.Test.YtibphkgcdnconaaSMonoidRuns
namespace Go.Proofs.Ytibphkgcdnconaa.PureM
open Go Go.RowKit Go.Proofs.Ytibphkgcdnconaa.QMon Go.Proofs.YtibphkgcdnconaaW.PrintWords Go.Proofs.YtibphkgcdnconaaW.PrintLast Go.Proofs.YtibphkgcdnconaaW.PrintMore Go.Proofs.YtibphkgcdnconaaX
theorem awake_ev : Ev (fun k => commodatumlaw10_Awake.f k) true := by
  refine Ev.of_rounds (fun k => ?_) ⟨60, by decide +kernel⟩
  exact commodatumlaw10_Awake.mono k
end Go.Proofs.Ytibphkgcdnconaa.PureM
