/- The one pure statement of the law MonoidRuns (written by xprint.py, this session's program). -/
import Derived.Test.YtibphkgcdnconaaQMonx15
import Derived.Test.YtibphkgcdnconaaQMonx0
import Derived.Test.YtibphkgcdnconaaXOpn
import Derived.KernelRfl
namespace Go.Proofs.Ytibphkgcdnconaa.QMon
open Go.RowKit Go.Proofs.YtibphkgcdnconaaW.PrintWords Go.Proofs.YtibphkgcdnconaaX

def Wf64 (x : S64) : Prop := (WInt .i64) x.f0 ∧ (WInt .i64) x.f1 ∧ (WInt .i64) x.f2

def Wf34 (x : S34) : Prop := (WInt .i64) x.f0 ∧ (WSl 24 Wf64) x.f1 ∧ (WSl 8 (WInt .i64)) x.f2

def commodatumlaw10_MonoidRuns.Pure : Prop := ∀ (l0 : List (List Int)) (s1 : S34) (l2 : List Bool), (WSl 24 (WSl 8 (WInt .i64))) l0 → Wf34 s1 → (WSl 1 WAny) l2 → ∃ k, commodatumlaw10_MonoidRuns.f k l0 s1.f0 s1.f1 s1.f2 l2 = some true
end Go.Proofs.Ytibphkgcdnconaa.QMon
