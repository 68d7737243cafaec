/- The one pure statement of the law ReachSavitch (written by xprint.py, this session's program). -/
import Derived.Test.YtcgnbmdhjehieaaQReachx11
import Derived.Test.YtcgnbmdhjehieaaQReachx0
import Derived.Test.YtcgnbmdhjehieaaXOpn
import Derived.KernelRfl
namespace Go.Proofs.Ytcgnbmdhjehieaa.QReach
open Go.RowKit Go.Proofs.YtcgnbmdhjehieaaW.PrintWords Go.Proofs.YtcgnbmdhjehieaaX

def Wf25 (x : S25) : Prop := (WInt .i64) x.f0 ∧ (WInt .i64) x.f1 ∧ (WInt .i64) x.f2

def commodatumlaw17_ReachSavitch.Pure : Prop := ∀ (l0 : List (List Int)) (s1 : S25), (WSl 24 (WSl 8 (WInt .i64))) l0 → Wf25 s1 → ∃ k, commodatumlaw17_ReachSavitch.f k l0 s1.f0 s1.f1 s1.f2 = some true
end Go.Proofs.Ytcgnbmdhjehieaa.QReach
