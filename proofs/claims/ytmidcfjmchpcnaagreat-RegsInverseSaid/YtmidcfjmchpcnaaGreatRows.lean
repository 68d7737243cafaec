/-
  NARROWER THAN 'FOR EVERY INPUT', by the rows' own cells (each row's printed sentence says how): RegsRuns: loops · RegsValues: loops · RegsForms: loops · RegsSums: loops · RegsUnrolls: loops · RegsJoins: loops · RegsInverse: loops · RegsMemory: loops · RegsSymbols: loops · RegsRestores: loops · RegsAdds: loops · RegsComposed: loops.
  DERIVED. THE GIVEN ROWS OF THIS SEAT. 13 by the template 'for every input the law returns true; each argument reads behind the call as it read before'; 0 by the template 'total and deterministic' (their statements: YtmidcfjmchpcnaaGreatTotals.lean).
  GIVEN WITH THE SEED: the statements are not yours to turn. If you find one false, say at which input.
  Laid BY PROGRAM, IN A SANDBOX (cutbox-rows.mjs): the forced cells as the released guide's own fill.sh prints them over the translation 4226c7d6807aa4be… (all of the seat's roots in one cut). By AI agents, Wed Nov 11 2026. No macro, syntax, notation, axiom, sorry.
-/
import Derived.Test.YtmidcfjmchpcnaaGreatChecked
import GoSem.Claim
import GoSem.ClaimJoined
import GoSem.ClaimMapViews
import Derived.JoinedTies
import Derived.KernelRfl
namespace Go.Proofs.YtmidcfjmchpcnaaGreat
/- THE CELL 'sum', in the pinned program and in every row, IS THE sha256 OF THE DUMP (.gsa) THAT YtmidcfjmchpcnaaGreatProg.lean LOADS. Nothing in Lean hashes anything: it is a label: what it is worth is what the hold of that sum in a sandbox is worth. -/
noncomputable def Tryz.pinned : Pinned := { name := "ytmidcfjmchpcnaagreat", sum := "4226c7d6807aa4be56e5a8ca59fd6f9b8ecc6a8a4e1c9ffe896de39c6f00518a", checked := Tryz.checked }
namespace Rows
def none {H : Type} : Left H := { results := [], args := [] }

/-- 'commodatumlaw13.RegsRuns': WHATEVER THE INPUT: true; the input reads as it did. -/
def regsRunsSpec : ChangeSpec := { name := "regsRuns", fn := fun _ => fun
  | [d1, d2, d3] => { results := [.lit (.bool true)], args := [d1, d2, d3] }
  | _ => none }
def regsRunsRow : OpenClaim := { program := "ytmidcfjmchpcnaagreat", sum := "4226c7d6807aa4be56e5a8ca59fd6f9b8ecc6a8a4e1c9ffe896de39c6f00518a", func := "commodatum/commodatumlaw13.RegsRuns", spec := "regsRuns", unfollowed := true, recurses := true, loops := true, apart := false }
def RegsRunsSaid : Prop := regsRunsRow.holds Tryz.pinned (OpenSpec.ofChange regsRunsSpec)

/-- ITS FALSE NEIGHBOUR: 'it returns false'. Refute it at one input. -/
def regsRunsWrong : ChangeSpec := { name := "regsRuns", fn := fun _ => fun
  | [d1, d2, d3] => { results := [.lit (.bool false)], args := [d1, d2, d3] }
  | _ => none }
def RegsRunsWrongFalsely : Prop := regsRunsRow.holds Tryz.pinned (OpenSpec.ofChange regsRunsWrong)

/-- 'commodatumlaw13.RegsValues': WHATEVER THE INPUT: true; the input reads as it did. -/
def regsValuesSpec : ChangeSpec := { name := "regsValues", fn := fun _ => fun
  | [d1, d2, d3] => { results := [.lit (.bool true)], args := [d1, d2, d3] }
  | _ => none }
def regsValuesRow : OpenClaim := { program := "ytmidcfjmchpcnaagreat", sum := "4226c7d6807aa4be56e5a8ca59fd6f9b8ecc6a8a4e1c9ffe896de39c6f00518a", func := "commodatum/commodatumlaw13.RegsValues", spec := "regsValues", unfollowed := true, recurses := true, loops := true, apart := false }
def RegsValuesSaid : Prop := regsValuesRow.holds Tryz.pinned (OpenSpec.ofChange regsValuesSpec)

/-- ITS FALSE NEIGHBOUR: 'it returns false'. Refute it at one input. -/
def regsValuesWrong : ChangeSpec := { name := "regsValues", fn := fun _ => fun
  | [d1, d2, d3] => { results := [.lit (.bool false)], args := [d1, d2, d3] }
  | _ => none }
def RegsValuesWrongFalsely : Prop := regsValuesRow.holds Tryz.pinned (OpenSpec.ofChange regsValuesWrong)

/-- 'commodatumlaw13.RegsForms': WHATEVER THE INPUT: true; the input reads as it did. -/
def regsFormsSpec : ChangeSpec := { name := "regsForms", fn := fun _ => fun
  | [d] => { results := [.lit (.bool true)], args := [d] }
  | _ => none }
def regsFormsRow : OpenClaim := { program := "ytmidcfjmchpcnaagreat", sum := "4226c7d6807aa4be56e5a8ca59fd6f9b8ecc6a8a4e1c9ffe896de39c6f00518a", func := "commodatum/commodatumlaw13.RegsForms", spec := "regsForms", unfollowed := true, recurses := true, loops := true, apart := false }
def RegsFormsSaid : Prop := regsFormsRow.holds Tryz.pinned (OpenSpec.ofChange regsFormsSpec)

/-- ITS FALSE NEIGHBOUR: 'it returns false'. Refute it at one input. -/
def regsFormsWrong : ChangeSpec := { name := "regsForms", fn := fun _ => fun
  | [d] => { results := [.lit (.bool false)], args := [d] }
  | _ => none }
def RegsFormsWrongFalsely : Prop := regsFormsRow.holds Tryz.pinned (OpenSpec.ofChange regsFormsWrong)

/-- 'commodatumlaw13.RegsSums': WHATEVER THE INPUT: true; the input reads as it did. -/
def regsSumsSpec : ChangeSpec := { name := "regsSums", fn := fun _ => fun
  | [d1, d2, d3] => { results := [.lit (.bool true)], args := [d1, d2, d3] }
  | _ => none }
def regsSumsRow : OpenClaim := { program := "ytmidcfjmchpcnaagreat", sum := "4226c7d6807aa4be56e5a8ca59fd6f9b8ecc6a8a4e1c9ffe896de39c6f00518a", func := "commodatum/commodatumlaw13.RegsSums", spec := "regsSums", unfollowed := true, recurses := true, loops := true, apart := false }
def RegsSumsSaid : Prop := regsSumsRow.holds Tryz.pinned (OpenSpec.ofChange regsSumsSpec)

/-- ITS FALSE NEIGHBOUR: 'it returns false'. Refute it at one input. -/
def regsSumsWrong : ChangeSpec := { name := "regsSums", fn := fun _ => fun
  | [d1, d2, d3] => { results := [.lit (.bool false)], args := [d1, d2, d3] }
  | _ => none }
def RegsSumsWrongFalsely : Prop := regsSumsRow.holds Tryz.pinned (OpenSpec.ofChange regsSumsWrong)

/-- 'commodatumlaw13.RegsUnrolls': WHATEVER THE INPUT: true; the input reads as it did. -/
def regsUnrollsSpec : ChangeSpec := { name := "regsUnrolls", fn := fun _ => fun
  | [d1, d2, d3] => { results := [.lit (.bool true)], args := [d1, d2, d3] }
  | _ => none }
def regsUnrollsRow : OpenClaim := { program := "ytmidcfjmchpcnaagreat", sum := "4226c7d6807aa4be56e5a8ca59fd6f9b8ecc6a8a4e1c9ffe896de39c6f00518a", func := "commodatum/commodatumlaw13.RegsUnrolls", spec := "regsUnrolls", unfollowed := true, recurses := true, loops := true, apart := false }
def RegsUnrollsSaid : Prop := regsUnrollsRow.holds Tryz.pinned (OpenSpec.ofChange regsUnrollsSpec)

/-- ITS FALSE NEIGHBOUR: 'it returns false'. Refute it at one input. -/
def regsUnrollsWrong : ChangeSpec := { name := "regsUnrolls", fn := fun _ => fun
  | [d1, d2, d3] => { results := [.lit (.bool false)], args := [d1, d2, d3] }
  | _ => none }
def RegsUnrollsWrongFalsely : Prop := regsUnrollsRow.holds Tryz.pinned (OpenSpec.ofChange regsUnrollsWrong)

/-- 'commodatumlaw13.RegsJoins': WHATEVER THE INPUT: true; the input reads as it did. -/
def regsJoinsSpec : ChangeSpec := { name := "regsJoins", fn := fun _ => fun
  | [d1, d2, d3] => { results := [.lit (.bool true)], args := [d1, d2, d3] }
  | _ => none }
def regsJoinsRow : OpenClaim := { program := "ytmidcfjmchpcnaagreat", sum := "4226c7d6807aa4be56e5a8ca59fd6f9b8ecc6a8a4e1c9ffe896de39c6f00518a", func := "commodatum/commodatumlaw13.RegsJoins", spec := "regsJoins", unfollowed := true, recurses := true, loops := true, apart := false }
def RegsJoinsSaid : Prop := regsJoinsRow.holds Tryz.pinned (OpenSpec.ofChange regsJoinsSpec)

/-- ITS FALSE NEIGHBOUR: 'it returns false'. Refute it at one input. -/
def regsJoinsWrong : ChangeSpec := { name := "regsJoins", fn := fun _ => fun
  | [d1, d2, d3] => { results := [.lit (.bool false)], args := [d1, d2, d3] }
  | _ => none }
def RegsJoinsWrongFalsely : Prop := regsJoinsRow.holds Tryz.pinned (OpenSpec.ofChange regsJoinsWrong)

/-- 'commodatumlaw13.RegsInverse': WHATEVER THE INPUT: true; the input reads as it did. -/
def regsInverseSpec : ChangeSpec := { name := "regsInverse", fn := fun _ => fun
  | [d1, d2, d3] => { results := [.lit (.bool true)], args := [d1, d2, d3] }
  | _ => none }
def regsInverseRow : OpenClaim := { program := "ytmidcfjmchpcnaagreat", sum := "4226c7d6807aa4be56e5a8ca59fd6f9b8ecc6a8a4e1c9ffe896de39c6f00518a", func := "commodatum/commodatumlaw13.RegsInverse", spec := "regsInverse", unfollowed := true, recurses := true, loops := true, apart := false }
def RegsInverseSaid : Prop := regsInverseRow.holds Tryz.pinned (OpenSpec.ofChange regsInverseSpec)

/-- ITS FALSE NEIGHBOUR: 'it returns false'. Refute it at one input. -/
def regsInverseWrong : ChangeSpec := { name := "regsInverse", fn := fun _ => fun
  | [d1, d2, d3] => { results := [.lit (.bool false)], args := [d1, d2, d3] }
  | _ => none }
def RegsInverseWrongFalsely : Prop := regsInverseRow.holds Tryz.pinned (OpenSpec.ofChange regsInverseWrong)

/-- 'commodatumlaw13.RegsPebbles': WHATEVER THE INPUT: true; the input reads as it did. -/
def regsPebblesSpec : ChangeSpec := { name := "regsPebbles", fn := fun _ => fun
  | [d1, d2, d3] => { results := [.lit (.bool true)], args := [d1, d2, d3] }
  | _ => none }
def regsPebblesRow : OpenClaim := { program := "ytmidcfjmchpcnaagreat", sum := "4226c7d6807aa4be56e5a8ca59fd6f9b8ecc6a8a4e1c9ffe896de39c6f00518a", func := "commodatum/commodatumlaw13.RegsPebbles", spec := "regsPebbles", unfollowed := true, recurses := true, apart := false }
def RegsPebblesSaid : Prop := regsPebblesRow.holds Tryz.pinned (OpenSpec.ofChange regsPebblesSpec)

/-- ITS FALSE NEIGHBOUR: 'it returns false'. Refute it at one input. -/
def regsPebblesWrong : ChangeSpec := { name := "regsPebbles", fn := fun _ => fun
  | [d1, d2, d3] => { results := [.lit (.bool false)], args := [d1, d2, d3] }
  | _ => none }
def RegsPebblesWrongFalsely : Prop := regsPebblesRow.holds Tryz.pinned (OpenSpec.ofChange regsPebblesWrong)

/-- 'commodatumlaw13.RegsMemory': WHATEVER THE INPUT: true; the input reads as it did. -/
def regsMemorySpec : ChangeSpec := { name := "regsMemory", fn := fun _ => fun
  | [d1, d2, d3] => { results := [.lit (.bool true)], args := [d1, d2, d3] }
  | _ => none }
def regsMemoryRow : OpenClaim := { program := "ytmidcfjmchpcnaagreat", sum := "4226c7d6807aa4be56e5a8ca59fd6f9b8ecc6a8a4e1c9ffe896de39c6f00518a", func := "commodatum/commodatumlaw13.RegsMemory", spec := "regsMemory", unfollowed := true, recurses := true, loops := true, apart := false }
def RegsMemorySaid : Prop := regsMemoryRow.holds Tryz.pinned (OpenSpec.ofChange regsMemorySpec)

/-- ITS FALSE NEIGHBOUR: 'it returns false'. Refute it at one input. -/
def regsMemoryWrong : ChangeSpec := { name := "regsMemory", fn := fun _ => fun
  | [d1, d2, d3] => { results := [.lit (.bool false)], args := [d1, d2, d3] }
  | _ => none }
def RegsMemoryWrongFalsely : Prop := regsMemoryRow.holds Tryz.pinned (OpenSpec.ofChange regsMemoryWrong)

/-- 'commodatumlaw13.RegsSymbols': WHATEVER THE INPUT: true; the input reads as it did. -/
def regsSymbolsSpec : ChangeSpec := { name := "regsSymbols", fn := fun _ => fun
  | [d] => { results := [.lit (.bool true)], args := [d] }
  | _ => none }
def regsSymbolsRow : OpenClaim := { program := "ytmidcfjmchpcnaagreat", sum := "4226c7d6807aa4be56e5a8ca59fd6f9b8ecc6a8a4e1c9ffe896de39c6f00518a", func := "commodatum/commodatumlaw13.RegsSymbols", spec := "regsSymbols", unfollowed := true, recurses := true, loops := true, apart := false }
def RegsSymbolsSaid : Prop := regsSymbolsRow.holds Tryz.pinned (OpenSpec.ofChange regsSymbolsSpec)

/-- ITS FALSE NEIGHBOUR: 'it returns false'. Refute it at one input. -/
def regsSymbolsWrong : ChangeSpec := { name := "regsSymbols", fn := fun _ => fun
  | [d] => { results := [.lit (.bool false)], args := [d] }
  | _ => none }
def RegsSymbolsWrongFalsely : Prop := regsSymbolsRow.holds Tryz.pinned (OpenSpec.ofChange regsSymbolsWrong)

/-- 'commodatumlaw13.RegsRestores': WHATEVER THE INPUT: true; the input reads as it did. -/
def regsRestoresSpec : ChangeSpec := { name := "regsRestores", fn := fun _ => fun
  | [d1, d2] => { results := [.lit (.bool true)], args := [d1, d2] }
  | _ => none }
def regsRestoresRow : OpenClaim := { program := "ytmidcfjmchpcnaagreat", sum := "4226c7d6807aa4be56e5a8ca59fd6f9b8ecc6a8a4e1c9ffe896de39c6f00518a", func := "commodatum/commodatumlaw13.RegsRestores", spec := "regsRestores", unfollowed := true, recurses := true, loops := true, apart := false }
def RegsRestoresSaid : Prop := regsRestoresRow.holds Tryz.pinned (OpenSpec.ofChange regsRestoresSpec)

/-- ITS FALSE NEIGHBOUR: 'it returns false'. Refute it at one input. -/
def regsRestoresWrong : ChangeSpec := { name := "regsRestores", fn := fun _ => fun
  | [d1, d2] => { results := [.lit (.bool false)], args := [d1, d2] }
  | _ => none }
def RegsRestoresWrongFalsely : Prop := regsRestoresRow.holds Tryz.pinned (OpenSpec.ofChange regsRestoresWrong)

/-- 'commodatumlaw13.RegsAdds': WHATEVER THE INPUT: true; the input reads as it did. -/
def regsAddsSpec : ChangeSpec := { name := "regsAdds", fn := fun _ => fun
  | [d1, d2] => { results := [.lit (.bool true)], args := [d1, d2] }
  | _ => none }
def regsAddsRow : OpenClaim := { program := "ytmidcfjmchpcnaagreat", sum := "4226c7d6807aa4be56e5a8ca59fd6f9b8ecc6a8a4e1c9ffe896de39c6f00518a", func := "commodatum/commodatumlaw13.RegsAdds", spec := "regsAdds", unfollowed := true, recurses := true, loops := true, apart := false }
def RegsAddsSaid : Prop := regsAddsRow.holds Tryz.pinned (OpenSpec.ofChange regsAddsSpec)

/-- ITS FALSE NEIGHBOUR: 'it returns false'. Refute it at one input. -/
def regsAddsWrong : ChangeSpec := { name := "regsAdds", fn := fun _ => fun
  | [d1, d2] => { results := [.lit (.bool false)], args := [d1, d2] }
  | _ => none }
def RegsAddsWrongFalsely : Prop := regsAddsRow.holds Tryz.pinned (OpenSpec.ofChange regsAddsWrong)

/-- 'commodatumlaw13.RegsComposed': WHATEVER THE INPUT: true; the input reads as it did. -/
def regsComposedSpec : ChangeSpec := { name := "regsComposed", fn := fun _ => fun
  | [d1, d2] => { results := [.lit (.bool true)], args := [d1, d2] }
  | _ => none }
def regsComposedRow : OpenClaim := { program := "ytmidcfjmchpcnaagreat", sum := "4226c7d6807aa4be56e5a8ca59fd6f9b8ecc6a8a4e1c9ffe896de39c6f00518a", func := "commodatum/commodatumlaw13.RegsComposed", spec := "regsComposed", unfollowed := true, recurses := true, loops := true, apart := false }
def RegsComposedSaid : Prop := regsComposedRow.holds Tryz.pinned (OpenSpec.ofChange regsComposedSpec)

/-- ITS FALSE NEIGHBOUR: 'it returns false'. Refute it at one input. -/
def regsComposedWrong : ChangeSpec := { name := "regsComposed", fn := fun _ => fun
  | [d1, d2] => { results := [.lit (.bool false)], args := [d1, d2] }
  | _ => none }
def RegsComposedWrongFalsely : Prop := regsComposedRow.holds Tryz.pinned (OpenSpec.ofChange regsComposedWrong)

/- THE SECOND FORM. 'bulk': how many values and letters a reading holds, each counted each time it is reached (what is shared counts as often as it is met; a slice's spare places count too). A statement '..UptoSaid' is the law's where the arguments, and the package variables that the reading takes, are together of bulk at most 1048576: NARROWER than '..Said'. Prove '..Said' where nothing that the law and all that it calls make is longer than what came in: it says more and counts as full. Else prove '..UptoSaid'. A law counts once. -/
mutual
def uptoBulk {H : Type} : DataW H → Nat
  | .lit (.string bytes) => bytes.length + 1
  | .lit _ => 1
  | .nil => 1
  | .ptr d => uptoBulk d + 1
  | .slice elems spare => uptoBulkAll elems + uptoBulkAll spare + 1
  | .agg parts => uptoBulkAll parts + 1
  | .iface _ d => uptoBulk d + 1
  | .map entries => uptoBulkEntries entries + 1
  | .held _ => 1
def uptoBulkAll {H : Type} : List (DataW H) → Nat
  | [] => 0
  | d :: r => uptoBulk d + uptoBulkAll r
def uptoBulkEntries {H : Type} : List (Lit × DataW H) → Nat
  | [] => 0
  | x :: r => uptoBulkEntry x + uptoBulkEntries r
def uptoBulkEntry {H : Type} : Lit × DataW H → Nat
  | (.string bytes, d) => bytes.length + uptoBulk d + 1
  | (_, d) => uptoBulk d + 1
 end
def uptoSmall : (H : Type) → List (DataW H) → Bool := fun _ ds => decide (uptoBulkAll ds ≤ 1048576)
def OpenSpec.upto (s : _root_.Go.ChangeSpec) : _root_.Go.OpenSpec := { _root_.Go.OpenSpec.ofChange s with cond := some uptoSmall }

/-- 'commodatumlaw13.RegsRuns', WHERE WHAT IT READS IS OF BULK AT MOST 1048576: true; the input reads as it did. -/
def regsRunsUptoRow : OpenClaim := { program := "ytmidcfjmchpcnaagreat", sum := "4226c7d6807aa4be56e5a8ca59fd6f9b8ecc6a8a4e1c9ffe896de39c6f00518a", func := "commodatum/commodatumlaw13.RegsRuns", spec := "regsRuns", unfollowed := true, recurses := true, loops := true, apart := false, narrowed := true }
def RegsRunsUptoSaid : Prop := regsRunsUptoRow.holds Tryz.pinned (OpenSpec.upto regsRunsSpec)

/-- 'commodatumlaw13.RegsValues', WHERE WHAT IT READS IS OF BULK AT MOST 1048576: true; the input reads as it did. -/
def regsValuesUptoRow : OpenClaim := { program := "ytmidcfjmchpcnaagreat", sum := "4226c7d6807aa4be56e5a8ca59fd6f9b8ecc6a8a4e1c9ffe896de39c6f00518a", func := "commodatum/commodatumlaw13.RegsValues", spec := "regsValues", unfollowed := true, recurses := true, loops := true, apart := false, narrowed := true }
def RegsValuesUptoSaid : Prop := regsValuesUptoRow.holds Tryz.pinned (OpenSpec.upto regsValuesSpec)

/-- 'commodatumlaw13.RegsForms', WHERE WHAT IT READS IS OF BULK AT MOST 1048576: true; the input reads as it did. -/
def regsFormsUptoRow : OpenClaim := { program := "ytmidcfjmchpcnaagreat", sum := "4226c7d6807aa4be56e5a8ca59fd6f9b8ecc6a8a4e1c9ffe896de39c6f00518a", func := "commodatum/commodatumlaw13.RegsForms", spec := "regsForms", unfollowed := true, recurses := true, loops := true, apart := false, narrowed := true }
def RegsFormsUptoSaid : Prop := regsFormsUptoRow.holds Tryz.pinned (OpenSpec.upto regsFormsSpec)

/-- 'commodatumlaw13.RegsSums', WHERE WHAT IT READS IS OF BULK AT MOST 1048576: true; the input reads as it did. -/
def regsSumsUptoRow : OpenClaim := { program := "ytmidcfjmchpcnaagreat", sum := "4226c7d6807aa4be56e5a8ca59fd6f9b8ecc6a8a4e1c9ffe896de39c6f00518a", func := "commodatum/commodatumlaw13.RegsSums", spec := "regsSums", unfollowed := true, recurses := true, loops := true, apart := false, narrowed := true }
def RegsSumsUptoSaid : Prop := regsSumsUptoRow.holds Tryz.pinned (OpenSpec.upto regsSumsSpec)

/-- 'commodatumlaw13.RegsUnrolls', WHERE WHAT IT READS IS OF BULK AT MOST 1048576: true; the input reads as it did. -/
def regsUnrollsUptoRow : OpenClaim := { program := "ytmidcfjmchpcnaagreat", sum := "4226c7d6807aa4be56e5a8ca59fd6f9b8ecc6a8a4e1c9ffe896de39c6f00518a", func := "commodatum/commodatumlaw13.RegsUnrolls", spec := "regsUnrolls", unfollowed := true, recurses := true, loops := true, apart := false, narrowed := true }
def RegsUnrollsUptoSaid : Prop := regsUnrollsUptoRow.holds Tryz.pinned (OpenSpec.upto regsUnrollsSpec)

/-- 'commodatumlaw13.RegsJoins', WHERE WHAT IT READS IS OF BULK AT MOST 1048576: true; the input reads as it did. -/
def regsJoinsUptoRow : OpenClaim := { program := "ytmidcfjmchpcnaagreat", sum := "4226c7d6807aa4be56e5a8ca59fd6f9b8ecc6a8a4e1c9ffe896de39c6f00518a", func := "commodatum/commodatumlaw13.RegsJoins", spec := "regsJoins", unfollowed := true, recurses := true, loops := true, apart := false, narrowed := true }
def RegsJoinsUptoSaid : Prop := regsJoinsUptoRow.holds Tryz.pinned (OpenSpec.upto regsJoinsSpec)

/-- 'commodatumlaw13.RegsInverse', WHERE WHAT IT READS IS OF BULK AT MOST 1048576: true; the input reads as it did. -/
def regsInverseUptoRow : OpenClaim := { program := "ytmidcfjmchpcnaagreat", sum := "4226c7d6807aa4be56e5a8ca59fd6f9b8ecc6a8a4e1c9ffe896de39c6f00518a", func := "commodatum/commodatumlaw13.RegsInverse", spec := "regsInverse", unfollowed := true, recurses := true, loops := true, apart := false, narrowed := true }
def RegsInverseUptoSaid : Prop := regsInverseUptoRow.holds Tryz.pinned (OpenSpec.upto regsInverseSpec)

/-- 'commodatumlaw13.RegsPebbles', WHERE WHAT IT READS IS OF BULK AT MOST 1048576: true; the input reads as it did. -/
def regsPebblesUptoRow : OpenClaim := { program := "ytmidcfjmchpcnaagreat", sum := "4226c7d6807aa4be56e5a8ca59fd6f9b8ecc6a8a4e1c9ffe896de39c6f00518a", func := "commodatum/commodatumlaw13.RegsPebbles", spec := "regsPebbles", unfollowed := true, recurses := true, apart := false, narrowed := true }
def RegsPebblesUptoSaid : Prop := regsPebblesUptoRow.holds Tryz.pinned (OpenSpec.upto regsPebblesSpec)

/-- 'commodatumlaw13.RegsMemory', WHERE WHAT IT READS IS OF BULK AT MOST 1048576: true; the input reads as it did. -/
def regsMemoryUptoRow : OpenClaim := { program := "ytmidcfjmchpcnaagreat", sum := "4226c7d6807aa4be56e5a8ca59fd6f9b8ecc6a8a4e1c9ffe896de39c6f00518a", func := "commodatum/commodatumlaw13.RegsMemory", spec := "regsMemory", unfollowed := true, recurses := true, loops := true, apart := false, narrowed := true }
def RegsMemoryUptoSaid : Prop := regsMemoryUptoRow.holds Tryz.pinned (OpenSpec.upto regsMemorySpec)

/-- 'commodatumlaw13.RegsSymbols', WHERE WHAT IT READS IS OF BULK AT MOST 1048576: true; the input reads as it did. -/
def regsSymbolsUptoRow : OpenClaim := { program := "ytmidcfjmchpcnaagreat", sum := "4226c7d6807aa4be56e5a8ca59fd6f9b8ecc6a8a4e1c9ffe896de39c6f00518a", func := "commodatum/commodatumlaw13.RegsSymbols", spec := "regsSymbols", unfollowed := true, recurses := true, loops := true, apart := false, narrowed := true }
def RegsSymbolsUptoSaid : Prop := regsSymbolsUptoRow.holds Tryz.pinned (OpenSpec.upto regsSymbolsSpec)

/-- 'commodatumlaw13.RegsRestores', WHERE WHAT IT READS IS OF BULK AT MOST 1048576: true; the input reads as it did. -/
def regsRestoresUptoRow : OpenClaim := { program := "ytmidcfjmchpcnaagreat", sum := "4226c7d6807aa4be56e5a8ca59fd6f9b8ecc6a8a4e1c9ffe896de39c6f00518a", func := "commodatum/commodatumlaw13.RegsRestores", spec := "regsRestores", unfollowed := true, recurses := true, loops := true, apart := false, narrowed := true }
def RegsRestoresUptoSaid : Prop := regsRestoresUptoRow.holds Tryz.pinned (OpenSpec.upto regsRestoresSpec)

/-- 'commodatumlaw13.RegsAdds', WHERE WHAT IT READS IS OF BULK AT MOST 1048576: true; the input reads as it did. -/
def regsAddsUptoRow : OpenClaim := { program := "ytmidcfjmchpcnaagreat", sum := "4226c7d6807aa4be56e5a8ca59fd6f9b8ecc6a8a4e1c9ffe896de39c6f00518a", func := "commodatum/commodatumlaw13.RegsAdds", spec := "regsAdds", unfollowed := true, recurses := true, loops := true, apart := false, narrowed := true }
def RegsAddsUptoSaid : Prop := regsAddsUptoRow.holds Tryz.pinned (OpenSpec.upto regsAddsSpec)

/-- 'commodatumlaw13.RegsComposed', WHERE WHAT IT READS IS OF BULK AT MOST 1048576: true; the input reads as it did. -/
def regsComposedUptoRow : OpenClaim := { program := "ytmidcfjmchpcnaagreat", sum := "4226c7d6807aa4be56e5a8ca59fd6f9b8ecc6a8a4e1c9ffe896de39c6f00518a", func := "commodatum/commodatumlaw13.RegsComposed", spec := "regsComposed", unfollowed := true, recurses := true, loops := true, apart := false, narrowed := true }
def RegsComposedUptoSaid : Prop := regsComposedUptoRow.holds Tryz.pinned (OpenSpec.upto regsComposedSpec)

end Rows
end Go.Proofs.YtmidcfjmchpcnaaGreat
