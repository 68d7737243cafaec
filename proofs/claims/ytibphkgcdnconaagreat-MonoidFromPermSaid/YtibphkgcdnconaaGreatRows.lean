/-
  NARROWER THAN 'FOR EVERY INPUT', by the rows' own cells (each row's printed sentence says how): MonoidFrom: loops · MonoidMemory: loops.
  DERIVED. THE GIVEN ROWS OF THIS SEAT. 4 by the template 'for every input the law returns true; each argument reads behind the call as it read before'; 0 by the template 'total and deterministic' (their statements: YtibphkgcdnconaaGreatTotals.lean).
  GIVEN WITH THE SEED: the statements are not yours to turn. If you find one false, say at which input.
  Laid BY PROGRAM, IN A SANDBOX (cutbox-rows.mjs): the forced cells as the released guide's own fill.sh prints them over the translation 68476e90dfafea64… (all of the seat's roots in one cut). By AI agents, Wed Nov 11 2026. No macro, syntax, notation, axiom, sorry.
-/
import Derived.Test.YtibphkgcdnconaaGreatChecked
import GoSem.Claim
import GoSem.ClaimJoined
import GoSem.ClaimMapViews
import Derived.JoinedTies
import Derived.KernelRfl
namespace Go.Proofs.YtibphkgcdnconaaGreat
/- THE CELL 'sum', in the pinned program and in every row, IS THE sha256 OF THE DUMP (.gsa) THAT YtibphkgcdnconaaGreatProg.lean LOADS. Nothing in Lean hashes anything: it is a label: what it is worth is what the hold of that sum in a sandbox is worth. -/
noncomputable def Tryz.pinned : Pinned := { name := "ytibphkgcdnconaagreat", sum := "68476e90dfafea64ec8f699493a94ac2eb279bed001ba266b746b601c375e0be", checked := Tryz.checked }
namespace Rows
def none {H : Type} : Left H := { results := [], args := [] }

/-- 'commodatumlaw10.MonoidFromPerm': WHATEVER THE INPUT: true; the input reads as it did. -/
def monoidFromPermSpec : ChangeSpec := { name := "monoidFromPerm", fn := fun _ => fun
  | [d1, d2] => { results := [.lit (.bool true)], args := [d1, d2] }
  | _ => none }
def monoidFromPermRow : OpenClaim := { program := "ytibphkgcdnconaagreat", sum := "68476e90dfafea64ec8f699493a94ac2eb279bed001ba266b746b601c375e0be", func := "commodatum/commodatumlaw10.MonoidFromPerm", spec := "monoidFromPerm", unfollowed := true, recurses := true, plainKeys := false, apart := false }
def MonoidFromPermSaid : Prop := monoidFromPermRow.holds Tryz.pinned (OpenSpec.ofChange monoidFromPermSpec)

/-- ITS FALSE NEIGHBOUR: 'it returns false'. Refute it at one input. -/
def monoidFromPermWrong : ChangeSpec := { name := "monoidFromPerm", fn := fun _ => fun
  | [d1, d2] => { results := [.lit (.bool false)], args := [d1, d2] }
  | _ => none }
def MonoidFromPermWrongFalsely : Prop := monoidFromPermRow.holds Tryz.pinned (OpenSpec.ofChange monoidFromPermWrong)

/-- 'commodatumlaw10.MonoidFrom': WHATEVER THE INPUT: true; the input reads as it did. -/
def monoidFromSpec : ChangeSpec := { name := "monoidFrom", fn := fun _ => fun
  | [d1, d2, d3] => { results := [.lit (.bool true)], args := [d1, d2, d3] }
  | _ => none }
def monoidFromRow : OpenClaim := { program := "ytibphkgcdnconaagreat", sum := "68476e90dfafea64ec8f699493a94ac2eb279bed001ba266b746b601c375e0be", func := "commodatum/commodatumlaw10.MonoidFrom", spec := "monoidFrom", unfollowed := true, recurses := true, loops := true, plainKeys := false, apart := false }
def MonoidFromSaid : Prop := monoidFromRow.holds Tryz.pinned (OpenSpec.ofChange monoidFromSpec)

/-- ITS FALSE NEIGHBOUR: 'it returns false'. Refute it at one input. -/
def monoidFromWrong : ChangeSpec := { name := "monoidFrom", fn := fun _ => fun
  | [d1, d2, d3] => { results := [.lit (.bool false)], args := [d1, d2, d3] }
  | _ => none }
def MonoidFromWrongFalsely : Prop := monoidFromRow.holds Tryz.pinned (OpenSpec.ofChange monoidFromWrong)

/-- 'commodatumlaw10.MonoidOfGroup': WHATEVER THE INPUT: true; the input reads as it did. -/
def monoidOfGroupSpec : ChangeSpec := { name := "monoidOfGroup", fn := fun _ => fun
  | [d] => { results := [.lit (.bool true)], args := [d] }
  | _ => none }
def monoidOfGroupRow : OpenClaim := { program := "ytibphkgcdnconaagreat", sum := "68476e90dfafea64ec8f699493a94ac2eb279bed001ba266b746b601c375e0be", func := "commodatum/commodatumlaw10.MonoidOfGroup", spec := "monoidOfGroup", unfollowed := true, recurses := true, plainKeys := false, apart := false }
def MonoidOfGroupSaid : Prop := monoidOfGroupRow.holds Tryz.pinned (OpenSpec.ofChange monoidOfGroupSpec)

/-- ITS FALSE NEIGHBOUR: 'it returns false'. Refute it at one input. -/
def monoidOfGroupWrong : ChangeSpec := { name := "monoidOfGroup", fn := fun _ => fun
  | [d] => { results := [.lit (.bool false)], args := [d] }
  | _ => none }
def MonoidOfGroupWrongFalsely : Prop := monoidOfGroupRow.holds Tryz.pinned (OpenSpec.ofChange monoidOfGroupWrong)

/-- 'commodatumlaw10.MonoidMemory': WHATEVER THE INPUT: true; the input reads as it did. -/
def monoidMemorySpec : ChangeSpec := { name := "monoidMemory", fn := fun _ => fun
  | [d1, d2, d3] => { results := [.lit (.bool true)], args := [d1, d2, d3] }
  | _ => none }
def monoidMemoryRow : OpenClaim := { program := "ytibphkgcdnconaagreat", sum := "68476e90dfafea64ec8f699493a94ac2eb279bed001ba266b746b601c375e0be", func := "commodatum/commodatumlaw10.MonoidMemory", spec := "monoidMemory", unfollowed := true, recurses := true, loops := true, plainKeys := false, apart := false }
def MonoidMemorySaid : Prop := monoidMemoryRow.holds Tryz.pinned (OpenSpec.ofChange monoidMemorySpec)

/-- ITS FALSE NEIGHBOUR: 'it returns false'. Refute it at one input. -/
def monoidMemoryWrong : ChangeSpec := { name := "monoidMemory", fn := fun _ => fun
  | [d1, d2, d3] => { results := [.lit (.bool false)], args := [d1, d2, d3] }
  | _ => none }
def MonoidMemoryWrongFalsely : Prop := monoidMemoryRow.holds Tryz.pinned (OpenSpec.ofChange monoidMemoryWrong)

/- THE SECOND FORM. 'bulk': how many values and letters a reading holds, each counted each time it is reached (what is shared counts as often as it is met; a slice's spare places count too). A statement '..UptoSaid' is the law's where the arguments, and the package variables that the reading takes, are together of bulk at most 1048576: NARROWER than '..Said'. Prove '..Said' where nothing that the law and all that it calls make is longer than what came in: it says more and counts as full. Else prove '..UptoSaid'. A law counts once. -/
mutual
def uptoBulk {H : Type} : DataW H → Nat
  | .lit (.string bytes) => bytes.length + 1
  | .lit _ => 1
  | .nil => 1
  | .ptr d => uptoBulk d + 1
  | .slice elems spare => uptoBulkAll elems + uptoBulkAll spare + 1
  | .agg parts => uptoBulkAll parts + 1
  | .iface _ d => uptoBulk d + 1
  | .map entries => uptoBulkEntries entries + 1
  | .held _ => 1
def uptoBulkAll {H : Type} : List (DataW H) → Nat
  | [] => 0
  | d :: r => uptoBulk d + uptoBulkAll r
def uptoBulkEntries {H : Type} : List (Lit × DataW H) → Nat
  | [] => 0
  | x :: r => uptoBulkEntry x + uptoBulkEntries r
def uptoBulkEntry {H : Type} : Lit × DataW H → Nat
  | (.string bytes, d) => bytes.length + uptoBulk d + 1
  | (_, d) => uptoBulk d + 1
 end
def uptoSmall : (H : Type) → List (DataW H) → Bool := fun _ ds => decide (uptoBulkAll ds ≤ 1048576)
def OpenSpec.upto (s : _root_.Go.ChangeSpec) : _root_.Go.OpenSpec := { _root_.Go.OpenSpec.ofChange s with cond := some uptoSmall }

/-- 'commodatumlaw10.MonoidFromPerm', WHERE WHAT IT READS IS OF BULK AT MOST 1048576: true; the input reads as it did. -/
def monoidFromPermUptoRow : OpenClaim := { program := "ytibphkgcdnconaagreat", sum := "68476e90dfafea64ec8f699493a94ac2eb279bed001ba266b746b601c375e0be", func := "commodatum/commodatumlaw10.MonoidFromPerm", spec := "monoidFromPerm", unfollowed := true, recurses := true, plainKeys := false, apart := false, narrowed := true }
def MonoidFromPermUptoSaid : Prop := monoidFromPermUptoRow.holds Tryz.pinned (OpenSpec.upto monoidFromPermSpec)

/-- 'commodatumlaw10.MonoidFrom', WHERE WHAT IT READS IS OF BULK AT MOST 1048576: true; the input reads as it did. -/
def monoidFromUptoRow : OpenClaim := { program := "ytibphkgcdnconaagreat", sum := "68476e90dfafea64ec8f699493a94ac2eb279bed001ba266b746b601c375e0be", func := "commodatum/commodatumlaw10.MonoidFrom", spec := "monoidFrom", unfollowed := true, recurses := true, loops := true, plainKeys := false, apart := false, narrowed := true }
def MonoidFromUptoSaid : Prop := monoidFromUptoRow.holds Tryz.pinned (OpenSpec.upto monoidFromSpec)

/-- 'commodatumlaw10.MonoidOfGroup', WHERE WHAT IT READS IS OF BULK AT MOST 1048576: true; the input reads as it did. -/
def monoidOfGroupUptoRow : OpenClaim := { program := "ytibphkgcdnconaagreat", sum := "68476e90dfafea64ec8f699493a94ac2eb279bed001ba266b746b601c375e0be", func := "commodatum/commodatumlaw10.MonoidOfGroup", spec := "monoidOfGroup", unfollowed := true, recurses := true, plainKeys := false, apart := false, narrowed := true }
def MonoidOfGroupUptoSaid : Prop := monoidOfGroupUptoRow.holds Tryz.pinned (OpenSpec.upto monoidOfGroupSpec)

/-- 'commodatumlaw10.MonoidMemory', WHERE WHAT IT READS IS OF BULK AT MOST 1048576: true; the input reads as it did. -/
def monoidMemoryUptoRow : OpenClaim := { program := "ytibphkgcdnconaagreat", sum := "68476e90dfafea64ec8f699493a94ac2eb279bed001ba266b746b601c375e0be", func := "commodatum/commodatumlaw10.MonoidMemory", spec := "monoidMemory", unfollowed := true, recurses := true, loops := true, plainKeys := false, apart := false, narrowed := true }
def MonoidMemoryUptoSaid : Prop := monoidMemoryUptoRow.holds Tryz.pinned (OpenSpec.upto monoidMemorySpec)

end Rows
end Go.Proofs.YtibphkgcdnconaaGreat
