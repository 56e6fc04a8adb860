/-
  No cell of these rows narrows 'for every input' (looked for: loops, veiled, ifaces, maps, wideKeys, modest, calm, conditions, laid).
  DERIVED. THE GIVEN ROWS OF THIS SEAT. 6 by the template 'for every input the law returns true; each argument reads behind the call as it read before'; 0 by the template 'total and deterministic' (their statements: YtjlgolkippleaaaTotals.lean).
  GIVEN WITH THE SEED: the statements are not yours to turn. If you find one false, say at which input.
  Laid BY PROGRAM, IN A SANDBOX (cutbox-rows.mjs): the forced cells as the released guide's own fill.sh prints them over the translation 2c15e18f3edb9d4c… (all of the seat's roots in one cut). By AI agents, Wed Nov 11 2026. No macro, syntax, notation, axiom, sorry.
-/
import Derived.Test.YtjlgolkippleaaaChecked
import GoSem.Claim
import GoSem.ClaimJoined
import GoSem.ClaimMapViews
import Derived.JoinedTies
import Derived.KernelRfl
namespace Go.Proofs.Ytjlgolkippleaaa
/- THE CELL 'sum', in the pinned program and in every row, IS THE sha256 OF THE DUMP (.gsa) THAT YtjlgolkippleaaaProg.lean LOADS. Nothing in Lean hashes anything: it is a label: what it is worth is what the hold of that sum in a sandbox is worth. -/
noncomputable def Try.pinned : Pinned := { name := "ytjlgolkippleaaa", sum := "2c15e18f3edb9d4cd957585feff8c2442bc8d8e4044755df1b7a223132d93e19", checked := Try.checked }
namespace Rows
def none {H : Type} : Left H := { results := [], args := [] }

/-- 'jackstaylaw16.SessOrder': WHATEVER THE INPUT: true; the input reads as it did. -/
def sessOrderSpec : ChangeSpec := { name := "sessOrder", fn := fun _ => fun
  | [d] => { results := [.lit (.bool true)], args := [d] }
  | _ => none }
def sessOrderRow : OpenClaim := { program := "ytjlgolkippleaaa", sum := "2c15e18f3edb9d4cd957585feff8c2442bc8d8e4044755df1b7a223132d93e19", func := "jackstay/jackstaylaw16.SessOrder", spec := "sessOrder", apart := false }
def SessOrderSaid : Prop := sessOrderRow.holds Try.pinned (OpenSpec.ofChange sessOrderSpec)

/-- ITS FALSE NEIGHBOUR: 'it returns false'. Refute it at one input. -/
def sessOrderWrong : ChangeSpec := { name := "sessOrder", fn := fun _ => fun
  | [d] => { results := [.lit (.bool false)], args := [d] }
  | _ => none }
def SessOrderWrongFalsely : Prop := sessOrderRow.holds Try.pinned (OpenSpec.ofChange sessOrderWrong)

/-- 'jackstaylaw16.SessAll': WHATEVER THE INPUT: true; the input reads as it did. -/
def sessAllSpec : ChangeSpec := { name := "sessAll", fn := fun _ => fun
  | [d] => { results := [.lit (.bool true)], args := [d] }
  | _ => none }
def sessAllRow : OpenClaim := { program := "ytjlgolkippleaaa", sum := "2c15e18f3edb9d4cd957585feff8c2442bc8d8e4044755df1b7a223132d93e19", func := "jackstay/jackstaylaw16.SessAll", spec := "sessAll", apart := false }
def SessAllSaid : Prop := sessAllRow.holds Try.pinned (OpenSpec.ofChange sessAllSpec)

/-- ITS FALSE NEIGHBOUR: 'it returns false'. Refute it at one input. -/
def sessAllWrong : ChangeSpec := { name := "sessAll", fn := fun _ => fun
  | [d] => { results := [.lit (.bool false)], args := [d] }
  | _ => none }
def SessAllWrongFalsely : Prop := sessAllRow.holds Try.pinned (OpenSpec.ofChange sessAllWrong)

/-- 'jackstaylaw16.SessBounds': WHATEVER THE INPUT: true; the input reads as it did. -/
def sessBoundsSpec : ChangeSpec := { name := "sessBounds", fn := fun _ => fun
  | [d] => { results := [.lit (.bool true)], args := [d] }
  | _ => none }
def sessBoundsRow : OpenClaim := { program := "ytjlgolkippleaaa", sum := "2c15e18f3edb9d4cd957585feff8c2442bc8d8e4044755df1b7a223132d93e19", func := "jackstay/jackstaylaw16.SessBounds", spec := "sessBounds", apart := false }
def SessBoundsSaid : Prop := sessBoundsRow.holds Try.pinned (OpenSpec.ofChange sessBoundsSpec)

/-- ITS FALSE NEIGHBOUR: 'it returns false'. Refute it at one input. -/
def sessBoundsWrong : ChangeSpec := { name := "sessBounds", fn := fun _ => fun
  | [d] => { results := [.lit (.bool false)], args := [d] }
  | _ => none }
def SessBoundsWrongFalsely : Prop := sessBoundsRow.holds Try.pinned (OpenSpec.ofChange sessBoundsWrong)

/-- 'jackstaylaw16.SessEpochs': WHATEVER THE INPUT: true; the input reads as it did. -/
def sessEpochsSpec : ChangeSpec := { name := "sessEpochs", fn := fun _ => fun
  | [d1, d2, d3] => { results := [.lit (.bool true)], args := [d1, d2, d3] }
  | _ => none }
def sessEpochsRow : OpenClaim := { program := "ytjlgolkippleaaa", sum := "2c15e18f3edb9d4cd957585feff8c2442bc8d8e4044755df1b7a223132d93e19", func := "jackstay/jackstaylaw16.SessEpochs", spec := "sessEpochs", apart := false }
def SessEpochsSaid : Prop := sessEpochsRow.holds Try.pinned (OpenSpec.ofChange sessEpochsSpec)

/-- ITS FALSE NEIGHBOUR: 'it returns false'. Refute it at one input. -/
def sessEpochsWrong : ChangeSpec := { name := "sessEpochs", fn := fun _ => fun
  | [d1, d2, d3] => { results := [.lit (.bool false)], args := [d1, d2, d3] }
  | _ => none }
def SessEpochsWrongFalsely : Prop := sessEpochsRow.holds Try.pinned (OpenSpec.ofChange sessEpochsWrong)

/-- 'jackstaylaw16.SessPlays': WHATEVER THE INPUT: true; the input reads as it did. -/
def sessPlaysSpec : ChangeSpec := { name := "sessPlays", fn := fun _ => fun
  | [d1, d2] => { results := [.lit (.bool true)], args := [d1, d2] }
  | _ => none }
def sessPlaysRow : OpenClaim := { program := "ytjlgolkippleaaa", sum := "2c15e18f3edb9d4cd957585feff8c2442bc8d8e4044755df1b7a223132d93e19", func := "jackstay/jackstaylaw16.SessPlays", spec := "sessPlays", apart := false }
def SessPlaysSaid : Prop := sessPlaysRow.holds Try.pinned (OpenSpec.ofChange sessPlaysSpec)

/-- ITS FALSE NEIGHBOUR: 'it returns false'. Refute it at one input. -/
def sessPlaysWrong : ChangeSpec := { name := "sessPlays", fn := fun _ => fun
  | [d1, d2] => { results := [.lit (.bool false)], args := [d1, d2] }
  | _ => none }
def SessPlaysWrongFalsely : Prop := sessPlaysRow.holds Try.pinned (OpenSpec.ofChange sessPlaysWrong)

/-- 'jackstaylaw16.SessNobody': WHATEVER THE INPUT: true; the input reads as it did. -/
def sessNobodySpec : ChangeSpec := { name := "sessNobody", fn := fun _ => fun
  | [d] => { results := [.lit (.bool true)], args := [d] }
  | _ => none }
def sessNobodyRow : OpenClaim := { program := "ytjlgolkippleaaa", sum := "2c15e18f3edb9d4cd957585feff8c2442bc8d8e4044755df1b7a223132d93e19", func := "jackstay/jackstaylaw16.SessNobody", spec := "sessNobody", apart := false }
def SessNobodySaid : Prop := sessNobodyRow.holds Try.pinned (OpenSpec.ofChange sessNobodySpec)

/-- ITS FALSE NEIGHBOUR: 'it returns false'. Refute it at one input. -/
def sessNobodyWrong : ChangeSpec := { name := "sessNobody", fn := fun _ => fun
  | [d] => { results := [.lit (.bool false)], args := [d] }
  | _ => none }
def SessNobodyWrongFalsely : Prop := sessNobodyRow.holds Try.pinned (OpenSpec.ofChange sessNobodyWrong)

/- THE SECOND FORM. 'bulk': how many values and letters a reading holds, each counted each time it is reached (what is shared counts as often as it is met; a slice's spare places count too). A statement '..UptoSaid' is the law's where the arguments, and the package variables that the reading takes, are together of bulk at most 1048576: NARROWER than '..Said'. Prove '..Said' where nothing that the law and all that it calls make is longer than what came in: it says more and counts as full. Else prove '..UptoSaid'. A law counts once. -/
mutual
def uptoBulk {H : Type} : DataW H → Nat
  | .lit (.string bytes) => bytes.length + 1
  | .lit _ => 1
  | .nil => 1
  | .ptr d => uptoBulk d + 1
  | .slice elems spare => uptoBulkAll elems + uptoBulkAll spare + 1
  | .agg parts => uptoBulkAll parts + 1
  | .iface _ d => uptoBulk d + 1
  | .map entries => uptoBulkEntries entries + 1
  | .held _ => 1
def uptoBulkAll {H : Type} : List (DataW H) → Nat
  | [] => 0
  | d :: r => uptoBulk d + uptoBulkAll r
def uptoBulkEntries {H : Type} : List (Lit × DataW H) → Nat
  | [] => 0
  | x :: r => uptoBulkEntry x + uptoBulkEntries r
def uptoBulkEntry {H : Type} : Lit × DataW H → Nat
  | (.string bytes, d) => bytes.length + uptoBulk d + 1
  | (_, d) => uptoBulk d + 1
 end
def uptoSmall : (H : Type) → List (DataW H) → Bool := fun _ ds => decide (uptoBulkAll ds ≤ 1048576)
def OpenSpec.upto (s : _root_.Go.ChangeSpec) : _root_.Go.OpenSpec := { _root_.Go.OpenSpec.ofChange s with cond := some uptoSmall }

/-- 'jackstaylaw16.SessOrder', WHERE WHAT IT READS IS OF BULK AT MOST 1048576: true; the input reads as it did. -/
def sessOrderUptoRow : OpenClaim := { program := "ytjlgolkippleaaa", sum := "2c15e18f3edb9d4cd957585feff8c2442bc8d8e4044755df1b7a223132d93e19", func := "jackstay/jackstaylaw16.SessOrder", spec := "sessOrder", apart := false, narrowed := true }
def SessOrderUptoSaid : Prop := sessOrderUptoRow.holds Try.pinned (OpenSpec.upto sessOrderSpec)

/-- 'jackstaylaw16.SessAll', WHERE WHAT IT READS IS OF BULK AT MOST 1048576: true; the input reads as it did. -/
def sessAllUptoRow : OpenClaim := { program := "ytjlgolkippleaaa", sum := "2c15e18f3edb9d4cd957585feff8c2442bc8d8e4044755df1b7a223132d93e19", func := "jackstay/jackstaylaw16.SessAll", spec := "sessAll", apart := false, narrowed := true }
def SessAllUptoSaid : Prop := sessAllUptoRow.holds Try.pinned (OpenSpec.upto sessAllSpec)

/-- 'jackstaylaw16.SessBounds', WHERE WHAT IT READS IS OF BULK AT MOST 1048576: true; the input reads as it did. -/
def sessBoundsUptoRow : OpenClaim := { program := "ytjlgolkippleaaa", sum := "2c15e18f3edb9d4cd957585feff8c2442bc8d8e4044755df1b7a223132d93e19", func := "jackstay/jackstaylaw16.SessBounds", spec := "sessBounds", apart := false, narrowed := true }
def SessBoundsUptoSaid : Prop := sessBoundsUptoRow.holds Try.pinned (OpenSpec.upto sessBoundsSpec)

/-- 'jackstaylaw16.SessEpochs', WHERE WHAT IT READS IS OF BULK AT MOST 1048576: true; the input reads as it did. -/
def sessEpochsUptoRow : OpenClaim := { program := "ytjlgolkippleaaa", sum := "2c15e18f3edb9d4cd957585feff8c2442bc8d8e4044755df1b7a223132d93e19", func := "jackstay/jackstaylaw16.SessEpochs", spec := "sessEpochs", apart := false, narrowed := true }
def SessEpochsUptoSaid : Prop := sessEpochsUptoRow.holds Try.pinned (OpenSpec.upto sessEpochsSpec)

/-- 'jackstaylaw16.SessPlays', WHERE WHAT IT READS IS OF BULK AT MOST 1048576: true; the input reads as it did. -/
def sessPlaysUptoRow : OpenClaim := { program := "ytjlgolkippleaaa", sum := "2c15e18f3edb9d4cd957585feff8c2442bc8d8e4044755df1b7a223132d93e19", func := "jackstay/jackstaylaw16.SessPlays", spec := "sessPlays", apart := false, narrowed := true }
def SessPlaysUptoSaid : Prop := sessPlaysUptoRow.holds Try.pinned (OpenSpec.upto sessPlaysSpec)

/-- 'jackstaylaw16.SessNobody', WHERE WHAT IT READS IS OF BULK AT MOST 1048576: true; the input reads as it did. -/
def sessNobodyUptoRow : OpenClaim := { program := "ytjlgolkippleaaa", sum := "2c15e18f3edb9d4cd957585feff8c2442bc8d8e4044755df1b7a223132d93e19", func := "jackstay/jackstaylaw16.SessNobody", spec := "sessNobody", apart := false, narrowed := true }
def SessNobodyUptoSaid : Prop := sessNobodyUptoRow.holds Try.pinned (OpenSpec.upto sessNobodySpec)

end Rows
end Go.Proofs.Ytjlgolkippleaaa
