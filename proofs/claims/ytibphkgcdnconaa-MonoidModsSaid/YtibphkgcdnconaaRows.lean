/-
  No cell of these rows narrows 'for every input' (looked for: loops, veiled, ifaces, maps, wideKeys, modest, calm, conditions, laid).
  DERIVED. THE GIVEN ROWS OF THIS SEAT. 4 by the template 'for every input the law returns true; each argument reads behind the call as it read before'; 0 by the template 'total and deterministic' (their statements: YtibphkgcdnconaaTotals.lean).
  GIVEN WITH THE SEED: the statements are not yours to turn. If you find one false, say at which input.
  Laid BY PROGRAM, IN A SANDBOX (cutbox-rows.mjs): the forced cells as the released guide's own fill.sh prints them over the translation 4d35b42b752b5f8f… (all of the seat's roots in one cut). By AI agents, Wed Nov 11 2026. No macro, syntax, notation, axiom, sorry.
-/
import Derived.Test.YtibphkgcdnconaaChecked
import GoSem.Claim
import GoSem.ClaimJoined
import GoSem.ClaimMapViews
import Derived.JoinedTies
import Derived.KernelRfl
namespace Go.Proofs.Ytibphkgcdnconaa
/- THE CELL 'sum', in the pinned program and in every row, IS THE sha256 OF THE DUMP (.gsa) THAT YtibphkgcdnconaaProg.lean LOADS. Nothing in Lean hashes anything: it is a label: what it is worth is what the hold of that sum in a sandbox is worth. -/
noncomputable def Try.pinned : Pinned := { name := "ytibphkgcdnconaa", sum := "4d35b42b752b5f8f3c46f219d8b079d8469e84e632a85d4760fbd9dcbdbe0a8b", checked := Try.checked }
namespace Rows
def none {H : Type} : Left H := { results := [], args := [] }

/-- 'commodatumlaw10.MonoidParts': WHATEVER THE INPUT: true; the input reads as it did. -/
def monoidPartsSpec : ChangeSpec := { name := "monoidParts", fn := fun _ => fun
  | [d] => { results := [.lit (.bool true)], args := [d] }
  | _ => none }
def monoidPartsRow : OpenClaim := { program := "ytibphkgcdnconaa", sum := "4d35b42b752b5f8f3c46f219d8b079d8469e84e632a85d4760fbd9dcbdbe0a8b", func := "commodatum/commodatumlaw10.MonoidParts", spec := "monoidParts", unfollowed := true, recurses := true, apart := false }
def MonoidPartsSaid : Prop := monoidPartsRow.holds Try.pinned (OpenSpec.ofChange monoidPartsSpec)

/-- ITS FALSE NEIGHBOUR: 'it returns false'. Refute it at one input. -/
def monoidPartsWrong : ChangeSpec := { name := "monoidParts", fn := fun _ => fun
  | [d] => { results := [.lit (.bool false)], args := [d] }
  | _ => none }
def MonoidPartsWrongFalsely : Prop := monoidPartsRow.holds Try.pinned (OpenSpec.ofChange monoidPartsWrong)

/-- 'commodatumlaw10.MonoidRuns': WHATEVER THE INPUT: true; the input reads as it did. -/
def monoidRunsSpec : ChangeSpec := { name := "monoidRuns", fn := fun _ => fun
  | [d1, d2, d3] => { results := [.lit (.bool true)], args := [d1, d2, d3] }
  | _ => none }
def monoidRunsRow : OpenClaim := { program := "ytibphkgcdnconaa", sum := "4d35b42b752b5f8f3c46f219d8b079d8469e84e632a85d4760fbd9dcbdbe0a8b", func := "commodatum/commodatumlaw10.MonoidRuns", spec := "monoidRuns", unfollowed := true, recurses := true, apart := false }
def MonoidRunsSaid : Prop := monoidRunsRow.holds Try.pinned (OpenSpec.ofChange monoidRunsSpec)

/-- ITS FALSE NEIGHBOUR: 'it returns false'. Refute it at one input. -/
def monoidRunsWrong : ChangeSpec := { name := "monoidRuns", fn := fun _ => fun
  | [d1, d2, d3] => { results := [.lit (.bool false)], args := [d1, d2, d3] }
  | _ => none }
def MonoidRunsWrongFalsely : Prop := monoidRunsRow.holds Try.pinned (OpenSpec.ofChange monoidRunsWrong)

/-- 'commodatumlaw10.MonoidMods': WHATEVER THE INPUT: true; the input reads as it did. -/
def monoidModsSpec : ChangeSpec := { name := "monoidMods", fn := fun _ => fun
  | [d1, d2, d3] => { results := [.lit (.bool true)], args := [d1, d2, d3] }
  | _ => none }
def monoidModsRow : OpenClaim := { program := "ytibphkgcdnconaa", sum := "4d35b42b752b5f8f3c46f219d8b079d8469e84e632a85d4760fbd9dcbdbe0a8b", func := "commodatum/commodatumlaw10.MonoidMods", spec := "monoidMods", unfollowed := true, recurses := true, apart := false }
def MonoidModsSaid : Prop := monoidModsRow.holds Try.pinned (OpenSpec.ofChange monoidModsSpec)

/-- ITS FALSE NEIGHBOUR: 'it returns false'. Refute it at one input. -/
def monoidModsWrong : ChangeSpec := { name := "monoidMods", fn := fun _ => fun
  | [d1, d2, d3] => { results := [.lit (.bool false)], args := [d1, d2, d3] }
  | _ => none }
def MonoidModsWrongFalsely : Prop := monoidModsRow.holds Try.pinned (OpenSpec.ofChange monoidModsWrong)

/-- 'commodatumlaw10.MonoidForms': WHATEVER THE INPUT: true; the input reads as it did. -/
def monoidFormsSpec : ChangeSpec := { name := "monoidForms", fn := fun _ => fun
  | [d1, d2] => { results := [.lit (.bool true)], args := [d1, d2] }
  | _ => none }
def monoidFormsRow : OpenClaim := { program := "ytibphkgcdnconaa", sum := "4d35b42b752b5f8f3c46f219d8b079d8469e84e632a85d4760fbd9dcbdbe0a8b", func := "commodatum/commodatumlaw10.MonoidForms", spec := "monoidForms", unfollowed := true, recurses := true, apart := false }
def MonoidFormsSaid : Prop := monoidFormsRow.holds Try.pinned (OpenSpec.ofChange monoidFormsSpec)

/-- ITS FALSE NEIGHBOUR: 'it returns false'. Refute it at one input. -/
def monoidFormsWrong : ChangeSpec := { name := "monoidForms", fn := fun _ => fun
  | [d1, d2] => { results := [.lit (.bool false)], args := [d1, d2] }
  | _ => none }
def MonoidFormsWrongFalsely : Prop := monoidFormsRow.holds Try.pinned (OpenSpec.ofChange monoidFormsWrong)

/- THE SECOND FORM. 'bulk': how many values and letters a reading holds, each counted each time it is reached (what is shared counts as often as it is met; a slice's spare places count too). A statement '..UptoSaid' is the law's where the arguments, and the package variables that the reading takes, are together of bulk at most 1048576: NARROWER than '..Said'. Prove '..Said' where nothing that the law and all that it calls make is longer than what came in: it says more and counts as full. Else prove '..UptoSaid'. A law counts once. -/
mutual
def uptoBulk {H : Type} : DataW H → Nat
  | .lit (.string bytes) => bytes.length + 1
  | .lit _ => 1
  | .nil => 1
  | .ptr d => uptoBulk d + 1
  | .slice elems spare => uptoBulkAll elems + uptoBulkAll spare + 1
  | .agg parts => uptoBulkAll parts + 1
  | .iface _ d => uptoBulk d + 1
  | .map entries => uptoBulkEntries entries + 1
  | .held _ => 1
def uptoBulkAll {H : Type} : List (DataW H) → Nat
  | [] => 0
  | d :: r => uptoBulk d + uptoBulkAll r
def uptoBulkEntries {H : Type} : List (Lit × DataW H) → Nat
  | [] => 0
  | x :: r => uptoBulkEntry x + uptoBulkEntries r
def uptoBulkEntry {H : Type} : Lit × DataW H → Nat
  | (.string bytes, d) => bytes.length + uptoBulk d + 1
  | (_, d) => uptoBulk d + 1
 end
def uptoSmall : (H : Type) → List (DataW H) → Bool := fun _ ds => decide (uptoBulkAll ds ≤ 1048576)
def OpenSpec.upto (s : _root_.Go.ChangeSpec) : _root_.Go.OpenSpec := { _root_.Go.OpenSpec.ofChange s with cond := some uptoSmall }

/-- 'commodatumlaw10.MonoidParts', WHERE WHAT IT READS IS OF BULK AT MOST 1048576: true; the input reads as it did. -/
def monoidPartsUptoRow : OpenClaim := { program := "ytibphkgcdnconaa", sum := "4d35b42b752b5f8f3c46f219d8b079d8469e84e632a85d4760fbd9dcbdbe0a8b", func := "commodatum/commodatumlaw10.MonoidParts", spec := "monoidParts", unfollowed := true, recurses := true, apart := false, narrowed := true }
def MonoidPartsUptoSaid : Prop := monoidPartsUptoRow.holds Try.pinned (OpenSpec.upto monoidPartsSpec)

/-- 'commodatumlaw10.MonoidRuns', WHERE WHAT IT READS IS OF BULK AT MOST 1048576: true; the input reads as it did. -/
def monoidRunsUptoRow : OpenClaim := { program := "ytibphkgcdnconaa", sum := "4d35b42b752b5f8f3c46f219d8b079d8469e84e632a85d4760fbd9dcbdbe0a8b", func := "commodatum/commodatumlaw10.MonoidRuns", spec := "monoidRuns", unfollowed := true, recurses := true, apart := false, narrowed := true }
def MonoidRunsUptoSaid : Prop := monoidRunsUptoRow.holds Try.pinned (OpenSpec.upto monoidRunsSpec)

/-- 'commodatumlaw10.MonoidMods', WHERE WHAT IT READS IS OF BULK AT MOST 1048576: true; the input reads as it did. -/
def monoidModsUptoRow : OpenClaim := { program := "ytibphkgcdnconaa", sum := "4d35b42b752b5f8f3c46f219d8b079d8469e84e632a85d4760fbd9dcbdbe0a8b", func := "commodatum/commodatumlaw10.MonoidMods", spec := "monoidMods", unfollowed := true, recurses := true, apart := false, narrowed := true }
def MonoidModsUptoSaid : Prop := monoidModsUptoRow.holds Try.pinned (OpenSpec.upto monoidModsSpec)

/-- 'commodatumlaw10.MonoidForms', WHERE WHAT IT READS IS OF BULK AT MOST 1048576: true; the input reads as it did. -/
def monoidFormsUptoRow : OpenClaim := { program := "ytibphkgcdnconaa", sum := "4d35b42b752b5f8f3c46f219d8b079d8469e84e632a85d4760fbd9dcbdbe0a8b", func := "commodatum/commodatumlaw10.MonoidForms", spec := "monoidForms", unfollowed := true, recurses := true, apart := false, narrowed := true }
def MonoidFormsUptoSaid : Prop := monoidFormsUptoRow.holds Try.pinned (OpenSpec.upto monoidFormsSpec)

end Rows
end Go.Proofs.Ytibphkgcdnconaa
