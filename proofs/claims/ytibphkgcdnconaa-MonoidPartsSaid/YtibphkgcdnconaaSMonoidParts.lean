/- The one pure statement of the law MonoidParts (written by xprint.py, this session's program). -/
import Derived.Test.YtibphkgcdnconaaQMonx13
import Derived.Test.YtibphkgcdnconaaQMonx0
import Derived.Test.YtibphkgcdnconaaXOpn
import Derived.KernelRfl
namespace Go.Proofs.Ytibphkgcdnconaa.QMon
open Go.RowKit Go.Proofs.YtibphkgcdnconaaW.PrintWords Go.Proofs.YtibphkgcdnconaaX

def commodatumlaw10_MonoidParts.Pure : Prop := ∀ (l0 : List (List Int)), (WSl 24 (WSl 8 (WInt .i64))) l0 → ∃ k, commodatumlaw10_MonoidParts.f k l0 = some true
end Go.Proofs.Ytibphkgcdnconaa.QMon
