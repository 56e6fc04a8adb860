/-
  No cell of these rows narrows 'for every input' (looked for: loops, veiled, ifaces, maps, wideKeys, modest, calm, conditions, laid).
  DERIVED. THE GIVEN ROWS OF THIS SEAT. 6 by the template 'for every input the law returns true; each argument reads behind the call as it read before'; 0 by the template 'total and deterministic' (their statements: YtompkoihmjenjaaTotals.lean).
  GIVEN WITH THE SEED: the statements are not yours to turn. If you find one false, say at which input.
  Laid BY PROGRAM, IN A SANDBOX (cutbox-rows.mjs): the forced cells as the released guide's own fill.sh prints them over the translation ace2525c8cd6b867… (all of the seat's roots in one cut). By AI agents, Wed Nov 11 2026. No macro, syntax, notation, axiom, sorry.
-/
import Derived.Test.YtompkoihmjenjaaChecked
import GoSem.Claim
import GoSem.ClaimJoined
import GoSem.ClaimMapViews
import Derived.JoinedTies
import Derived.KernelRfl
namespace Go.Proofs.Ytompkoihmjenjaa
/- THE CELL 'sum', in the pinned program and in every row, IS THE sha256 OF THE DUMP (.gsa) THAT YtompkoihmjenjaaProg.lean LOADS. Nothing in Lean hashes anything: it is a label: what it is worth is what the hold of that sum in a sandbox is worth. -/
noncomputable def Try.pinned : Pinned := { name := "ytompkoihmjenjaa", sum := "ace2525c8cd6b8675ba5f7dbf6397a644e64f4ea552c9a38e9486adc4dddc611", checked := Try.checked }
namespace Rows
def none {H : Type} : Left H := { results := [], args := [] }

/-- 'jackstaylaw05.AllocBack': WHATEVER THE INPUT: true; the input reads as it did. -/
def allocBackSpec : ChangeSpec := { name := "allocBack", fn := fun _ => fun
  | [d1, d2, d3] => { results := [.lit (.bool true)], args := [d1, d2, d3] }
  | _ => none }
def allocBackRow : OpenClaim := { program := "ytompkoihmjenjaa", sum := "ace2525c8cd6b8675ba5f7dbf6397a644e64f4ea552c9a38e9486adc4dddc611", func := "jackstay/jackstaylaw05.AllocBack", spec := "allocBack", unfollowed := true, recurses := true, apart := false }
def AllocBackSaid : Prop := allocBackRow.holds Try.pinned (OpenSpec.ofChange allocBackSpec)

/-- ITS FALSE NEIGHBOUR: 'it returns false'. Refute it at one input. -/
def allocBackWrong : ChangeSpec := { name := "allocBack", fn := fun _ => fun
  | [d1, d2, d3] => { results := [.lit (.bool false)], args := [d1, d2, d3] }
  | _ => none }
def AllocBackWrongFalsely : Prop := allocBackRow.holds Try.pinned (OpenSpec.ofChange allocBackWrong)

/-- 'jackstaylaw05.AllocTaken': WHATEVER THE INPUT: true; the input reads as it did. -/
def allocTakenSpec : ChangeSpec := { name := "allocTaken", fn := fun _ => fun
  | [d1, d2] => { results := [.lit (.bool true)], args := [d1, d2] }
  | _ => none }
def allocTakenRow : OpenClaim := { program := "ytompkoihmjenjaa", sum := "ace2525c8cd6b8675ba5f7dbf6397a644e64f4ea552c9a38e9486adc4dddc611", func := "jackstay/jackstaylaw05.AllocTaken", spec := "allocTaken", unfollowed := true, recurses := true, apart := false }
def AllocTakenSaid : Prop := allocTakenRow.holds Try.pinned (OpenSpec.ofChange allocTakenSpec)

/-- ITS FALSE NEIGHBOUR: 'it returns false'. Refute it at one input. -/
def allocTakenWrong : ChangeSpec := { name := "allocTaken", fn := fun _ => fun
  | [d1, d2] => { results := [.lit (.bool false)], args := [d1, d2] }
  | _ => none }
def AllocTakenWrongFalsely : Prop := allocTakenRow.holds Try.pinned (OpenSpec.ofChange allocTakenWrong)

/-- 'jackstaylaw05.AllocFirst': WHATEVER THE INPUT: true; the input reads as it did. -/
def allocFirstSpec : ChangeSpec := { name := "allocFirst", fn := fun _ => fun
  | [d1, d2, d3] => { results := [.lit (.bool true)], args := [d1, d2, d3] }
  | _ => none }
def allocFirstRow : OpenClaim := { program := "ytompkoihmjenjaa", sum := "ace2525c8cd6b8675ba5f7dbf6397a644e64f4ea552c9a38e9486adc4dddc611", func := "jackstay/jackstaylaw05.AllocFirst", spec := "allocFirst", unfollowed := true, recurses := true, apart := false }
def AllocFirstSaid : Prop := allocFirstRow.holds Try.pinned (OpenSpec.ofChange allocFirstSpec)

/-- ITS FALSE NEIGHBOUR: 'it returns false'. Refute it at one input. -/
def allocFirstWrong : ChangeSpec := { name := "allocFirst", fn := fun _ => fun
  | [d1, d2, d3] => { results := [.lit (.bool false)], args := [d1, d2, d3] }
  | _ => none }
def AllocFirstWrongFalsely : Prop := allocFirstRow.holds Try.pinned (OpenSpec.ofChange allocFirstWrong)

/-- 'jackstaylaw05.AllocPlays': WHATEVER THE INPUT: true; the input reads as it did. -/
def allocPlaysSpec : ChangeSpec := { name := "allocPlays", fn := fun _ => fun
  | [d1, d2, d3] => { results := [.lit (.bool true)], args := [d1, d2, d3] }
  | _ => none }
def allocPlaysRow : OpenClaim := { program := "ytompkoihmjenjaa", sum := "ace2525c8cd6b8675ba5f7dbf6397a644e64f4ea552c9a38e9486adc4dddc611", func := "jackstay/jackstaylaw05.AllocPlays", spec := "allocPlays", unfollowed := true, recurses := true, apart := false }
def AllocPlaysSaid : Prop := allocPlaysRow.holds Try.pinned (OpenSpec.ofChange allocPlaysSpec)

/-- ITS FALSE NEIGHBOUR: 'it returns false'. Refute it at one input. -/
def allocPlaysWrong : ChangeSpec := { name := "allocPlays", fn := fun _ => fun
  | [d1, d2, d3] => { results := [.lit (.bool false)], args := [d1, d2, d3] }
  | _ => none }
def AllocPlaysWrongFalsely : Prop := allocPlaysRow.holds Try.pinned (OpenSpec.ofChange allocPlaysWrong)

/-- 'jackstaylaw05.AllocAll': WHATEVER THE INPUT: true; the input reads as it did. -/
def allocAllSpec : ChangeSpec := { name := "allocAll", fn := fun _ => fun
  | [d1, d2] => { results := [.lit (.bool true)], args := [d1, d2] }
  | _ => none }
def allocAllRow : OpenClaim := { program := "ytompkoihmjenjaa", sum := "ace2525c8cd6b8675ba5f7dbf6397a644e64f4ea552c9a38e9486adc4dddc611", func := "jackstay/jackstaylaw05.AllocAll", spec := "allocAll", unfollowed := true, recurses := true, apart := false }
def AllocAllSaid : Prop := allocAllRow.holds Try.pinned (OpenSpec.ofChange allocAllSpec)

/-- ITS FALSE NEIGHBOUR: 'it returns false'. Refute it at one input. -/
def allocAllWrong : ChangeSpec := { name := "allocAll", fn := fun _ => fun
  | [d1, d2] => { results := [.lit (.bool false)], args := [d1, d2] }
  | _ => none }
def AllocAllWrongFalsely : Prop := allocAllRow.holds Try.pinned (OpenSpec.ofChange allocAllWrong)

/-- 'jackstaylaw05.AllocNobody': WHATEVER THE INPUT: true; the input reads as it did. -/
def allocNobodySpec : ChangeSpec := { name := "allocNobody", fn := fun _ => fun
  | [d] => { results := [.lit (.bool true)], args := [d] }
  | _ => none }
def allocNobodyRow : OpenClaim := { program := "ytompkoihmjenjaa", sum := "ace2525c8cd6b8675ba5f7dbf6397a644e64f4ea552c9a38e9486adc4dddc611", func := "jackstay/jackstaylaw05.AllocNobody", spec := "allocNobody", unfollowed := true, recurses := true, apart := false }
def AllocNobodySaid : Prop := allocNobodyRow.holds Try.pinned (OpenSpec.ofChange allocNobodySpec)

/-- ITS FALSE NEIGHBOUR: 'it returns false'. Refute it at one input. -/
def allocNobodyWrong : ChangeSpec := { name := "allocNobody", fn := fun _ => fun
  | [d] => { results := [.lit (.bool false)], args := [d] }
  | _ => none }
def AllocNobodyWrongFalsely : Prop := allocNobodyRow.holds Try.pinned (OpenSpec.ofChange allocNobodyWrong)

/- THE SECOND FORM. 'bulk': how many values and letters a reading holds, each counted each time it is reached (what is shared counts as often as it is met; a slice's spare places count too). A statement '..UptoSaid' is the law's where the arguments, and the package variables that the reading takes, are together of bulk at most 1048576: NARROWER than '..Said'. Prove '..Said' where nothing that the law and all that it calls make is longer than what came in: it says more and counts as full. Else prove '..UptoSaid'. A law counts once. -/
mutual
def uptoBulk {H : Type} : DataW H → Nat
  | .lit (.string bytes) => bytes.length + 1
  | .lit _ => 1
  | .nil => 1
  | .ptr d => uptoBulk d + 1
  | .slice elems spare => uptoBulkAll elems + uptoBulkAll spare + 1
  | .agg parts => uptoBulkAll parts + 1
  | .iface _ d => uptoBulk d + 1
  | .map entries => uptoBulkEntries entries + 1
  | .held _ => 1
def uptoBulkAll {H : Type} : List (DataW H) → Nat
  | [] => 0
  | d :: r => uptoBulk d + uptoBulkAll r
def uptoBulkEntries {H : Type} : List (Lit × DataW H) → Nat
  | [] => 0
  | x :: r => uptoBulkEntry x + uptoBulkEntries r
def uptoBulkEntry {H : Type} : Lit × DataW H → Nat
  | (.string bytes, d) => bytes.length + uptoBulk d + 1
  | (_, d) => uptoBulk d + 1
 end
def uptoSmall : (H : Type) → List (DataW H) → Bool := fun _ ds => decide (uptoBulkAll ds ≤ 1048576)
def OpenSpec.upto (s : _root_.Go.ChangeSpec) : _root_.Go.OpenSpec := { _root_.Go.OpenSpec.ofChange s with cond := some uptoSmall }

/-- 'jackstaylaw05.AllocBack', WHERE WHAT IT READS IS OF BULK AT MOST 1048576: true; the input reads as it did. -/
def allocBackUptoRow : OpenClaim := { program := "ytompkoihmjenjaa", sum := "ace2525c8cd6b8675ba5f7dbf6397a644e64f4ea552c9a38e9486adc4dddc611", func := "jackstay/jackstaylaw05.AllocBack", spec := "allocBack", unfollowed := true, recurses := true, apart := false, narrowed := true }
def AllocBackUptoSaid : Prop := allocBackUptoRow.holds Try.pinned (OpenSpec.upto allocBackSpec)

/-- 'jackstaylaw05.AllocTaken', WHERE WHAT IT READS IS OF BULK AT MOST 1048576: true; the input reads as it did. -/
def allocTakenUptoRow : OpenClaim := { program := "ytompkoihmjenjaa", sum := "ace2525c8cd6b8675ba5f7dbf6397a644e64f4ea552c9a38e9486adc4dddc611", func := "jackstay/jackstaylaw05.AllocTaken", spec := "allocTaken", unfollowed := true, recurses := true, apart := false, narrowed := true }
def AllocTakenUptoSaid : Prop := allocTakenUptoRow.holds Try.pinned (OpenSpec.upto allocTakenSpec)

/-- 'jackstaylaw05.AllocFirst', WHERE WHAT IT READS IS OF BULK AT MOST 1048576: true; the input reads as it did. -/
def allocFirstUptoRow : OpenClaim := { program := "ytompkoihmjenjaa", sum := "ace2525c8cd6b8675ba5f7dbf6397a644e64f4ea552c9a38e9486adc4dddc611", func := "jackstay/jackstaylaw05.AllocFirst", spec := "allocFirst", unfollowed := true, recurses := true, apart := false, narrowed := true }
def AllocFirstUptoSaid : Prop := allocFirstUptoRow.holds Try.pinned (OpenSpec.upto allocFirstSpec)

/-- 'jackstaylaw05.AllocPlays', WHERE WHAT IT READS IS OF BULK AT MOST 1048576: true; the input reads as it did. -/
def allocPlaysUptoRow : OpenClaim := { program := "ytompkoihmjenjaa", sum := "ace2525c8cd6b8675ba5f7dbf6397a644e64f4ea552c9a38e9486adc4dddc611", func := "jackstay/jackstaylaw05.AllocPlays", spec := "allocPlays", unfollowed := true, recurses := true, apart := false, narrowed := true }
def AllocPlaysUptoSaid : Prop := allocPlaysUptoRow.holds Try.pinned (OpenSpec.upto allocPlaysSpec)

/-- 'jackstaylaw05.AllocAll', WHERE WHAT IT READS IS OF BULK AT MOST 1048576: true; the input reads as it did. -/
def allocAllUptoRow : OpenClaim := { program := "ytompkoihmjenjaa", sum := "ace2525c8cd6b8675ba5f7dbf6397a644e64f4ea552c9a38e9486adc4dddc611", func := "jackstay/jackstaylaw05.AllocAll", spec := "allocAll", unfollowed := true, recurses := true, apart := false, narrowed := true }
def AllocAllUptoSaid : Prop := allocAllUptoRow.holds Try.pinned (OpenSpec.upto allocAllSpec)

/-- 'jackstaylaw05.AllocNobody', WHERE WHAT IT READS IS OF BULK AT MOST 1048576: true; the input reads as it did. -/
def allocNobodyUptoRow : OpenClaim := { program := "ytompkoihmjenjaa", sum := "ace2525c8cd6b8675ba5f7dbf6397a644e64f4ea552c9a38e9486adc4dddc611", func := "jackstay/jackstaylaw05.AllocNobody", spec := "allocNobody", unfollowed := true, recurses := true, apart := false, narrowed := true }
def AllocNobodyUptoSaid : Prop := allocNobodyUptoRow.holds Try.pinned (OpenSpec.upto allocNobodySpec)

end Rows
end Go.Proofs.Ytompkoihmjenjaa
