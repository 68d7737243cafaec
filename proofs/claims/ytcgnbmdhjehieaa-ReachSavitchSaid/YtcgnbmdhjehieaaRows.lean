/-
  No cell of these rows narrows 'for every input' (looked for: loops, veiled, ifaces, maps, wideKeys, modest, calm, conditions, laid).
  DERIVED. THE GIVEN ROWS OF THIS SEAT. 3 by the template 'for every input the law returns true; each argument reads behind the call as it read before'; 0 by the template 'total and deterministic' (their statements: YtcgnbmdhjehieaaTotals.lean).
  GIVEN WITH THE SEED: the statements are not yours to turn. If you find one false, say at which input.
  Laid BY PROGRAM, IN A SANDBOX (cutbox-rows.mjs): the forced cells as the released guide's own fill.sh prints them over the translation e57126c4f312be49… (all of the seat's roots in one cut). By AI agents, Wed Nov 11 2026. No macro, syntax, notation, axiom, sorry.
-/
import Derived.Test.YtcgnbmdhjehieaaChecked
import GoSem.Claim
import GoSem.ClaimJoined
import GoSem.ClaimMapViews
import Derived.JoinedTies
import Derived.KernelRfl
namespace Go.Proofs.Ytcgnbmdhjehieaa
/- THE CELL 'sum', in the pinned program and in every row, IS THE sha256 OF THE DUMP (.gsa) THAT YtcgnbmdhjehieaaProg.lean LOADS. Nothing in Lean hashes anything: it is a label: what it is worth is what the hold of that sum in a sandbox is worth. -/
noncomputable def Try.pinned : Pinned := { name := "ytcgnbmdhjehieaa", sum := "e57126c4f312be492e2b022bd52dab900a91482027b9244e8dd2d19f8b99d6e2", checked := Try.checked }
namespace Rows
def none {H : Type} : Left H := { results := [], args := [] }

/-- 'commodatumlaw17.ReachSavitch': WHATEVER THE INPUT: true; the input reads as it did. -/
def reachSavitchSpec : ChangeSpec := { name := "reachSavitch", fn := fun _ => fun
  | [d1, d2] => { results := [.lit (.bool true)], args := [d1, d2] }
  | _ => none }
def reachSavitchRow : OpenClaim := { program := "ytcgnbmdhjehieaa", sum := "e57126c4f312be492e2b022bd52dab900a91482027b9244e8dd2d19f8b99d6e2", func := "commodatum/commodatumlaw17.ReachSavitch", spec := "reachSavitch", unfollowed := true, recurses := true, apart := false }
def ReachSavitchSaid : Prop := reachSavitchRow.holds Try.pinned (OpenSpec.ofChange reachSavitchSpec)

/-- ITS FALSE NEIGHBOUR: 'it returns false'. Refute it at one input. -/
def reachSavitchWrong : ChangeSpec := { name := "reachSavitch", fn := fun _ => fun
  | [d1, d2] => { results := [.lit (.bool false)], args := [d1, d2] }
  | _ => none }
def ReachSavitchWrongFalsely : Prop := reachSavitchRow.holds Try.pinned (OpenSpec.ofChange reachSavitchWrong)

/-- 'commodatumlaw17.ReachComposed': WHATEVER THE INPUT: true; the input reads as it did. -/
def reachComposedSpec : ChangeSpec := { name := "reachComposed", fn := fun _ => fun
  | [d1, d2, d3] => { results := [.lit (.bool true)], args := [d1, d2, d3] }
  | _ => none }
def reachComposedRow : OpenClaim := { program := "ytcgnbmdhjehieaa", sum := "e57126c4f312be492e2b022bd52dab900a91482027b9244e8dd2d19f8b99d6e2", func := "commodatum/commodatumlaw17.ReachComposed", spec := "reachComposed", unfollowed := true, recurses := true, apart := false }
def ReachComposedSaid : Prop := reachComposedRow.holds Try.pinned (OpenSpec.ofChange reachComposedSpec)

/-- ITS FALSE NEIGHBOUR: 'it returns false'. Refute it at one input. -/
def reachComposedWrong : ChangeSpec := { name := "reachComposed", fn := fun _ => fun
  | [d1, d2, d3] => { results := [.lit (.bool false)], args := [d1, d2, d3] }
  | _ => none }
def ReachComposedWrongFalsely : Prop := reachComposedRow.holds Try.pinned (OpenSpec.ofChange reachComposedWrong)

/-- 'commodatumlaw17.ReachCounts': WHATEVER THE INPUT: true; the input reads as it did. -/
def reachCountsSpec : ChangeSpec := { name := "reachCounts", fn := fun _ => fun
  | [d1, d2] => { results := [.lit (.bool true)], args := [d1, d2] }
  | _ => none }
def reachCountsRow : OpenClaim := { program := "ytcgnbmdhjehieaa", sum := "e57126c4f312be492e2b022bd52dab900a91482027b9244e8dd2d19f8b99d6e2", func := "commodatum/commodatumlaw17.ReachCounts", spec := "reachCounts", unfollowed := true, recurses := true, apart := false }
def ReachCountsSaid : Prop := reachCountsRow.holds Try.pinned (OpenSpec.ofChange reachCountsSpec)

/-- ITS FALSE NEIGHBOUR: 'it returns false'. Refute it at one input. -/
def reachCountsWrong : ChangeSpec := { name := "reachCounts", fn := fun _ => fun
  | [d1, d2] => { results := [.lit (.bool false)], args := [d1, d2] }
  | _ => none }
def ReachCountsWrongFalsely : Prop := reachCountsRow.holds Try.pinned (OpenSpec.ofChange reachCountsWrong)

/- THE SECOND FORM. 'bulk': how many values and letters a reading holds, each counted each time it is reached (what is shared counts as often as it is met; a slice's spare places count too). A statement '..UptoSaid' is the law's where the arguments, and the package variables that the reading takes, are together of bulk at most 1048576: NARROWER than '..Said'. Prove '..Said' where nothing that the law and all that it calls make is longer than what came in: it says more and counts as full. Else prove '..UptoSaid'. A law counts once. -/
mutual
def uptoBulk {H : Type} : DataW H → Nat
  | .lit (.string bytes) => bytes.length + 1
  | .lit _ => 1
  | .nil => 1
  | .ptr d => uptoBulk d + 1
  | .slice elems spare => uptoBulkAll elems + uptoBulkAll spare + 1
  | .agg parts => uptoBulkAll parts + 1
  | .iface _ d => uptoBulk d + 1
  | .map entries => uptoBulkEntries entries + 1
  | .held _ => 1
def uptoBulkAll {H : Type} : List (DataW H) → Nat
  | [] => 0
  | d :: r => uptoBulk d + uptoBulkAll r
def uptoBulkEntries {H : Type} : List (Lit × DataW H) → Nat
  | [] => 0
  | x :: r => uptoBulkEntry x + uptoBulkEntries r
def uptoBulkEntry {H : Type} : Lit × DataW H → Nat
  | (.string bytes, d) => bytes.length + uptoBulk d + 1
  | (_, d) => uptoBulk d + 1
 end
def uptoSmall : (H : Type) → List (DataW H) → Bool := fun _ ds => decide (uptoBulkAll ds ≤ 1048576)
def OpenSpec.upto (s : _root_.Go.ChangeSpec) : _root_.Go.OpenSpec := { _root_.Go.OpenSpec.ofChange s with cond := some uptoSmall }

/-- 'commodatumlaw17.ReachSavitch', WHERE WHAT IT READS IS OF BULK AT MOST 1048576: true; the input reads as it did. -/
def reachSavitchUptoRow : OpenClaim := { program := "ytcgnbmdhjehieaa", sum := "e57126c4f312be492e2b022bd52dab900a91482027b9244e8dd2d19f8b99d6e2", func := "commodatum/commodatumlaw17.ReachSavitch", spec := "reachSavitch", unfollowed := true, recurses := true, apart := false, narrowed := true }
def ReachSavitchUptoSaid : Prop := reachSavitchUptoRow.holds Try.pinned (OpenSpec.upto reachSavitchSpec)

/-- 'commodatumlaw17.ReachComposed', WHERE WHAT IT READS IS OF BULK AT MOST 1048576: true; the input reads as it did. -/
def reachComposedUptoRow : OpenClaim := { program := "ytcgnbmdhjehieaa", sum := "e57126c4f312be492e2b022bd52dab900a91482027b9244e8dd2d19f8b99d6e2", func := "commodatum/commodatumlaw17.ReachComposed", spec := "reachComposed", unfollowed := true, recurses := true, apart := false, narrowed := true }
def ReachComposedUptoSaid : Prop := reachComposedUptoRow.holds Try.pinned (OpenSpec.upto reachComposedSpec)

/-- 'commodatumlaw17.ReachCounts', WHERE WHAT IT READS IS OF BULK AT MOST 1048576: true; the input reads as it did. -/
def reachCountsUptoRow : OpenClaim := { program := "ytcgnbmdhjehieaa", sum := "e57126c4f312be492e2b022bd52dab900a91482027b9244e8dd2d19f8b99d6e2", func := "commodatum/commodatumlaw17.ReachCounts", spec := "reachCounts", unfollowed := true, recurses := true, apart := false, narrowed := true }
def ReachCountsUptoSaid : Prop := reachCountsUptoRow.holds Try.pinned (OpenSpec.upto reachCountsSpec)

end Rows
end Go.Proofs.Ytcgnbmdhjehieaa
