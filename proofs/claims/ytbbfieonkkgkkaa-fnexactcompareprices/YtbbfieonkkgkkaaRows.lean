/-
  No cell of these rows narrows 'for every input' (looked for: loops, veiled, ifaces, maps, wideKeys, modest, calm, conditions, laid).
  DERIVED. THE GIVEN ROWS OF THIS SEAT. 12 by the template 'for every input the law returns true; each argument reads behind the call as it read before'; 0 by the template 'total and deterministic' (their statements: YtbbfieonkkgkkaaTotals.lean).
  GIVEN WITH THE SEED: the statements are not yours to turn. If you find one false, say at which input.
  Laid BY PROGRAM, IN A SANDBOX (cutbox-rows.mjs): the forced cells as the released guide's own fill.sh prints them over the translation 1b0c031b457c6886… (all of the seat's roots in one cut). By AI agents, Wed Nov 11 2026. No macro, syntax, notation, axiom, sorry.
-/
import Derived.Test.YtbbfieonkkgkkaaChecked
import GoSem.Claim
import GoSem.ClaimJoined
import GoSem.ClaimMapViews
import Derived.JoinedTies
import Derived.KernelRfl
namespace Go.Proofs.Ytbbfieonkkgkkaa
/- THE CELL 'sum', in the pinned program and in every row, IS THE sha256 OF THE DUMP (.gsa) THAT YtbbfieonkkgkkaaProg.lean LOADS. Nothing in Lean hashes anything: it is a label: what it is worth is what the hold of that sum in a sandbox is worth. -/
noncomputable def Try.pinned : Pinned := { name := "ytbbfieonkkgkkaa", sum := "1b0c031b457c688619b17f117aefbb9601f86fedf9a09796f7d8ab308d60b862", checked := Try.checked }
namespace Rows
def none {H : Type} : Left H := { results := [], args := [] }

/-- 'laws.FnExactIsPrice': WHATEVER THE INPUT: true; the input reads as it did. -/
def fnExactIsPriceSpec : ChangeSpec := { name := "fnExactIsPrice", fn := fun _ => fun
  | [d] => { results := [.lit (.bool true)], args := [d] }
  | _ => none }
def fnExactIsPriceRow : OpenClaim := { program := "ytbbfieonkkgkkaa", sum := "1b0c031b457c688619b17f117aefbb9601f86fedf9a09796f7d8ab308d60b862", func := "loop.example/g00940/laws.FnExactIsPrice", spec := "fnExactIsPrice", apart := false }
def FnExactIsPriceSaid : Prop := fnExactIsPriceRow.holds Try.pinned (OpenSpec.ofChange fnExactIsPriceSpec)

/-- ITS FALSE NEIGHBOUR: 'it returns false'. Refute it at one input. -/
def fnExactIsPriceWrong : ChangeSpec := { name := "fnExactIsPrice", fn := fun _ => fun
  | [d] => { results := [.lit (.bool false)], args := [d] }
  | _ => none }
def FnExactIsPriceWrongFalsely : Prop := fnExactIsPriceRow.holds Try.pinned (OpenSpec.ofChange fnExactIsPriceWrong)

/-- 'laws.FnExactFarthestFor': WHATEVER THE INPUT: true; the input reads as it did. -/
def fnExactFarthestForSpec : ChangeSpec := { name := "fnExactFarthestFor", fn := fun _ => fun
  | [d1, d2, d3] => { results := [.lit (.bool true)], args := [d1, d2, d3] }
  | _ => none }
def fnExactFarthestForRow : OpenClaim := { program := "ytbbfieonkkgkkaa", sum := "1b0c031b457c688619b17f117aefbb9601f86fedf9a09796f7d8ab308d60b862", func := "loop.example/g00940/laws.FnExactFarthestFor", spec := "fnExactFarthestFor", apart := false }
def FnExactFarthestForSaid : Prop := fnExactFarthestForRow.holds Try.pinned (OpenSpec.ofChange fnExactFarthestForSpec)

/-- ITS FALSE NEIGHBOUR: 'it returns false'. Refute it at one input. -/
def fnExactFarthestForWrong : ChangeSpec := { name := "fnExactFarthestFor", fn := fun _ => fun
  | [d1, d2, d3] => { results := [.lit (.bool false)], args := [d1, d2, d3] }
  | _ => none }
def FnExactFarthestForWrongFalsely : Prop := fnExactFarthestForRow.holds Try.pinned (OpenSpec.ofChange fnExactFarthestForWrong)

/-- 'laws.FnExactSignalsFor': WHATEVER THE INPUT: true; the input reads as it did. -/
def fnExactSignalsForSpec : ChangeSpec := { name := "fnExactSignalsFor", fn := fun _ => fun
  | [d1, d2, d3] => { results := [.lit (.bool true)], args := [d1, d2, d3] }
  | _ => none }
def fnExactSignalsForRow : OpenClaim := { program := "ytbbfieonkkgkkaa", sum := "1b0c031b457c688619b17f117aefbb9601f86fedf9a09796f7d8ab308d60b862", func := "loop.example/g00940/laws.FnExactSignalsFor", spec := "fnExactSignalsFor", apart := false }
def FnExactSignalsForSaid : Prop := fnExactSignalsForRow.holds Try.pinned (OpenSpec.ofChange fnExactSignalsForSpec)

/-- ITS FALSE NEIGHBOUR: 'it returns false'. Refute it at one input. -/
def fnExactSignalsForWrong : ChangeSpec := { name := "fnExactSignalsFor", fn := fun _ => fun
  | [d1, d2, d3] => { results := [.lit (.bool false)], args := [d1, d2, d3] }
  | _ => none }
def FnExactSignalsForWrongFalsely : Prop := fnExactSignalsForRow.holds Try.pinned (OpenSpec.ofChange fnExactSignalsForWrong)

/-- 'laws.FnExactPriceOf': WHATEVER THE INPUT: true; the input reads as it did. -/
def fnExactPriceOfSpec : ChangeSpec := { name := "fnExactPriceOf", fn := fun _ => fun
  | [d1, d2] => { results := [.lit (.bool true)], args := [d1, d2] }
  | _ => none }
def fnExactPriceOfRow : OpenClaim := { program := "ytbbfieonkkgkkaa", sum := "1b0c031b457c688619b17f117aefbb9601f86fedf9a09796f7d8ab308d60b862", func := "loop.example/g00940/laws.FnExactPriceOf", spec := "fnExactPriceOf", apart := false }
def FnExactPriceOfSaid : Prop := fnExactPriceOfRow.holds Try.pinned (OpenSpec.ofChange fnExactPriceOfSpec)

/-- ITS FALSE NEIGHBOUR: 'it returns false'. Refute it at one input. -/
def fnExactPriceOfWrong : ChangeSpec := { name := "fnExactPriceOf", fn := fun _ => fun
  | [d1, d2] => { results := [.lit (.bool false)], args := [d1, d2] }
  | _ => none }
def FnExactPriceOfWrongFalsely : Prop := fnExactPriceOfRow.holds Try.pinned (OpenSpec.ofChange fnExactPriceOfWrong)

/-- 'laws.FnExactRefundOf': WHATEVER THE INPUT: true; the input reads as it did. -/
def fnExactRefundOfSpec : ChangeSpec := { name := "fnExactRefundOf", fn := fun _ => fun
  | [d1, d2] => { results := [.lit (.bool true)], args := [d1, d2] }
  | _ => none }
def fnExactRefundOfRow : OpenClaim := { program := "ytbbfieonkkgkkaa", sum := "1b0c031b457c688619b17f117aefbb9601f86fedf9a09796f7d8ab308d60b862", func := "loop.example/g00940/laws.FnExactRefundOf", spec := "fnExactRefundOf", apart := false }
def FnExactRefundOfSaid : Prop := fnExactRefundOfRow.holds Try.pinned (OpenSpec.ofChange fnExactRefundOfSpec)

/-- ITS FALSE NEIGHBOUR: 'it returns false'. Refute it at one input. -/
def fnExactRefundOfWrong : ChangeSpec := { name := "fnExactRefundOf", fn := fun _ => fun
  | [d1, d2] => { results := [.lit (.bool false)], args := [d1, d2] }
  | _ => none }
def FnExactRefundOfWrongFalsely : Prop := fnExactRefundOfRow.holds Try.pinned (OpenSpec.ofChange fnExactRefundOfWrong)

/-- 'laws.FnExactSplitPrice': WHATEVER THE INPUT: true; the input reads as it did. -/
def fnExactSplitPriceSpec : ChangeSpec := { name := "fnExactSplitPrice", fn := fun _ => fun
  | [d1, d2, d3] => { results := [.lit (.bool true)], args := [d1, d2, d3] }
  | _ => none }
def fnExactSplitPriceRow : OpenClaim := { program := "ytbbfieonkkgkkaa", sum := "1b0c031b457c688619b17f117aefbb9601f86fedf9a09796f7d8ab308d60b862", func := "loop.example/g00940/laws.FnExactSplitPrice", spec := "fnExactSplitPrice", apart := false }
def FnExactSplitPriceSaid : Prop := fnExactSplitPriceRow.holds Try.pinned (OpenSpec.ofChange fnExactSplitPriceSpec)

/-- ITS FALSE NEIGHBOUR: 'it returns false'. Refute it at one input. -/
def fnExactSplitPriceWrong : ChangeSpec := { name := "fnExactSplitPrice", fn := fun _ => fun
  | [d1, d2, d3] => { results := [.lit (.bool false)], args := [d1, d2, d3] }
  | _ => none }
def FnExactSplitPriceWrongFalsely : Prop := fnExactSplitPriceRow.holds Try.pinned (OpenSpec.ofChange fnExactSplitPriceWrong)

/-- 'laws.FnExactAreSent': WHATEVER THE INPUT: true; the input reads as it did. -/
def fnExactAreSentSpec : ChangeSpec := { name := "fnExactAreSent", fn := fun _ => fun
  | [d] => { results := [.lit (.bool true)], args := [d] }
  | _ => none }
def fnExactAreSentRow : OpenClaim := { program := "ytbbfieonkkgkkaa", sum := "1b0c031b457c688619b17f117aefbb9601f86fedf9a09796f7d8ab308d60b862", func := "loop.example/g00940/laws.FnExactAreSent", spec := "fnExactAreSent", unfollowed := true, recurses := true, apart := false }
def FnExactAreSentSaid : Prop := fnExactAreSentRow.holds Try.pinned (OpenSpec.ofChange fnExactAreSentSpec)

/-- ITS FALSE NEIGHBOUR: 'it returns false'. Refute it at one input. -/
def fnExactAreSentWrong : ChangeSpec := { name := "fnExactAreSent", fn := fun _ => fun
  | [d] => { results := [.lit (.bool false)], args := [d] }
  | _ => none }
def FnExactAreSentWrongFalsely : Prop := fnExactAreSentRow.holds Try.pinned (OpenSpec.ofChange fnExactAreSentWrong)

/-- 'laws.FnExactDearestOf': WHATEVER THE INPUT: true; the input reads as it did. -/
def fnExactDearestOfSpec : ChangeSpec := { name := "fnExactDearestOf", fn := fun _ => fun
  | [d1, d2] => { results := [.lit (.bool true)], args := [d1, d2] }
  | _ => none }
def fnExactDearestOfRow : OpenClaim := { program := "ytbbfieonkkgkkaa", sum := "1b0c031b457c688619b17f117aefbb9601f86fedf9a09796f7d8ab308d60b862", func := "loop.example/g00940/laws.FnExactDearestOf", spec := "fnExactDearestOf", unfollowed := true, recurses := true, apart := false }
def FnExactDearestOfSaid : Prop := fnExactDearestOfRow.holds Try.pinned (OpenSpec.ofChange fnExactDearestOfSpec)

/-- ITS FALSE NEIGHBOUR: 'it returns false'. Refute it at one input. -/
def fnExactDearestOfWrong : ChangeSpec := { name := "fnExactDearestOf", fn := fun _ => fun
  | [d1, d2] => { results := [.lit (.bool false)], args := [d1, d2] }
  | _ => none }
def FnExactDearestOfWrongFalsely : Prop := fnExactDearestOfRow.holds Try.pinned (OpenSpec.ofChange fnExactDearestOfWrong)

/-- 'laws.FnExactBillOf': WHATEVER THE INPUT: true; the input reads as it did. -/
def fnExactBillOfSpec : ChangeSpec := { name := "fnExactBillOf", fn := fun _ => fun
  | [d1, d2] => { results := [.lit (.bool true)], args := [d1, d2] }
  | _ => none }
def fnExactBillOfRow : OpenClaim := { program := "ytbbfieonkkgkkaa", sum := "1b0c031b457c688619b17f117aefbb9601f86fedf9a09796f7d8ab308d60b862", func := "loop.example/g00940/laws.FnExactBillOf", spec := "fnExactBillOf", unfollowed := true, recurses := true, apart := false }
def FnExactBillOfSaid : Prop := fnExactBillOfRow.holds Try.pinned (OpenSpec.ofChange fnExactBillOfSpec)

/-- ITS FALSE NEIGHBOUR: 'it returns false'. Refute it at one input. -/
def fnExactBillOfWrong : ChangeSpec := { name := "fnExactBillOf", fn := fun _ => fun
  | [d1, d2] => { results := [.lit (.bool false)], args := [d1, d2] }
  | _ => none }
def FnExactBillOfWrongFalsely : Prop := fnExactBillOfRow.holds Try.pinned (OpenSpec.ofChange fnExactBillOfWrong)

/-- 'laws.FnExactComparePrices': WHATEVER THE INPUT: true; the input reads as it did. -/
def fnExactComparePricesSpec : ChangeSpec := { name := "fnExactComparePrices", fn := fun _ => fun
  | [d1, d2, d3] => { results := [.lit (.bool true)], args := [d1, d2, d3] }
  | _ => none }
def fnExactComparePricesRow : OpenClaim := { program := "ytbbfieonkkgkkaa", sum := "1b0c031b457c688619b17f117aefbb9601f86fedf9a09796f7d8ab308d60b862", func := "loop.example/g00940/laws.FnExactComparePrices", spec := "fnExactComparePrices", unfollowed := true, recurses := true, apart := false }
def FnExactComparePricesSaid : Prop := fnExactComparePricesRow.holds Try.pinned (OpenSpec.ofChange fnExactComparePricesSpec)

/-- ITS FALSE NEIGHBOUR: 'it returns false'. Refute it at one input. -/
def fnExactComparePricesWrong : ChangeSpec := { name := "fnExactComparePrices", fn := fun _ => fun
  | [d1, d2, d3] => { results := [.lit (.bool false)], args := [d1, d2, d3] }
  | _ => none }
def FnExactComparePricesWrongFalsely : Prop := fnExactComparePricesRow.holds Try.pinned (OpenSpec.ofChange fnExactComparePricesWrong)

/-- 'laws.FnAffordable': WHATEVER THE INPUT: true; the input reads as it did. -/
def fnAffordableSpec : ChangeSpec := { name := "fnAffordable", fn := fun _ => fun
  | [d1, d2] => { results := [.lit (.bool true)], args := [d1, d2] }
  | _ => none }
def fnAffordableRow : OpenClaim := { program := "ytbbfieonkkgkkaa", sum := "1b0c031b457c688619b17f117aefbb9601f86fedf9a09796f7d8ab308d60b862", func := "loop.example/g00940/laws.FnAffordable", spec := "fnAffordable", unfollowed := true, recurses := true, apart := false }
def FnAffordableSaid : Prop := fnAffordableRow.holds Try.pinned (OpenSpec.ofChange fnAffordableSpec)

/-- ITS FALSE NEIGHBOUR: 'it returns false'. Refute it at one input. -/
def fnAffordableWrong : ChangeSpec := { name := "fnAffordable", fn := fun _ => fun
  | [d1, d2] => { results := [.lit (.bool false)], args := [d1, d2] }
  | _ => none }
def FnAffordableWrongFalsely : Prop := fnAffordableRow.holds Try.pinned (OpenSpec.ofChange fnAffordableWrong)

/-- 'laws.FnPrices': WHATEVER THE INPUT: true; the input reads as it did. -/
def fnPricesSpec : ChangeSpec := { name := "fnPrices", fn := fun _ => fun
  | [d1, d2] => { results := [.lit (.bool true)], args := [d1, d2] }
  | _ => none }
def fnPricesRow : OpenClaim := { program := "ytbbfieonkkgkkaa", sum := "1b0c031b457c688619b17f117aefbb9601f86fedf9a09796f7d8ab308d60b862", func := "loop.example/g00940/laws.FnPrices", spec := "fnPrices", unfollowed := true, recurses := true, apart := false }
def FnPricesSaid : Prop := fnPricesRow.holds Try.pinned (OpenSpec.ofChange fnPricesSpec)

/-- ITS FALSE NEIGHBOUR: 'it returns false'. Refute it at one input. -/
def fnPricesWrong : ChangeSpec := { name := "fnPrices", fn := fun _ => fun
  | [d1, d2] => { results := [.lit (.bool false)], args := [d1, d2] }
  | _ => none }
def FnPricesWrongFalsely : Prop := fnPricesRow.holds Try.pinned (OpenSpec.ofChange fnPricesWrong)

/- THE SECOND FORM. 'bulk': how many values and letters a reading holds, each counted each time it is reached (what is shared counts as often as it is met; a slice's spare places count too). A statement '..UptoSaid' is the law's where the arguments, and the package variables that the reading takes, are together of bulk at most 1048576: NARROWER than '..Said'. Prove '..Said' where nothing that the law and all that it calls make is longer than what came in: it says more and counts as full. Else prove '..UptoSaid'. A law counts once. -/
mutual
def uptoBulk {H : Type} : DataW H → Nat
  | .lit (.string bytes) => bytes.length + 1
  | .lit _ => 1
  | .nil => 1
  | .ptr d => uptoBulk d + 1
  | .slice elems spare => uptoBulkAll elems + uptoBulkAll spare + 1
  | .agg parts => uptoBulkAll parts + 1
  | .iface _ d => uptoBulk d + 1
  | .map entries => uptoBulkEntries entries + 1
  | .held _ => 1
def uptoBulkAll {H : Type} : List (DataW H) → Nat
  | [] => 0
  | d :: r => uptoBulk d + uptoBulkAll r
def uptoBulkEntries {H : Type} : List (Lit × DataW H) → Nat
  | [] => 0
  | x :: r => uptoBulkEntry x + uptoBulkEntries r
def uptoBulkEntry {H : Type} : Lit × DataW H → Nat
  | (.string bytes, d) => bytes.length + uptoBulk d + 1
  | (_, d) => uptoBulk d + 1
 end
def uptoSmall : (H : Type) → List (DataW H) → Bool := fun _ ds => decide (uptoBulkAll ds ≤ 1048576)
def OpenSpec.upto (s : _root_.Go.ChangeSpec) : _root_.Go.OpenSpec := { _root_.Go.OpenSpec.ofChange s with cond := some uptoSmall }

/-- 'laws.FnExactIsPrice', WHERE WHAT IT READS IS OF BULK AT MOST 1048576: true; the input reads as it did. -/
def fnExactIsPriceUptoRow : OpenClaim := { program := "ytbbfieonkkgkkaa", sum := "1b0c031b457c688619b17f117aefbb9601f86fedf9a09796f7d8ab308d60b862", func := "loop.example/g00940/laws.FnExactIsPrice", spec := "fnExactIsPrice", apart := false, narrowed := true }
def FnExactIsPriceUptoSaid : Prop := fnExactIsPriceUptoRow.holds Try.pinned (OpenSpec.upto fnExactIsPriceSpec)

/-- 'laws.FnExactFarthestFor', WHERE WHAT IT READS IS OF BULK AT MOST 1048576: true; the input reads as it did. -/
def fnExactFarthestForUptoRow : OpenClaim := { program := "ytbbfieonkkgkkaa", sum := "1b0c031b457c688619b17f117aefbb9601f86fedf9a09796f7d8ab308d60b862", func := "loop.example/g00940/laws.FnExactFarthestFor", spec := "fnExactFarthestFor", apart := false, narrowed := true }
def FnExactFarthestForUptoSaid : Prop := fnExactFarthestForUptoRow.holds Try.pinned (OpenSpec.upto fnExactFarthestForSpec)

/-- 'laws.FnExactSignalsFor', WHERE WHAT IT READS IS OF BULK AT MOST 1048576: true; the input reads as it did. -/
def fnExactSignalsForUptoRow : OpenClaim := { program := "ytbbfieonkkgkkaa", sum := "1b0c031b457c688619b17f117aefbb9601f86fedf9a09796f7d8ab308d60b862", func := "loop.example/g00940/laws.FnExactSignalsFor", spec := "fnExactSignalsFor", apart := false, narrowed := true }
def FnExactSignalsForUptoSaid : Prop := fnExactSignalsForUptoRow.holds Try.pinned (OpenSpec.upto fnExactSignalsForSpec)

/-- 'laws.FnExactPriceOf', WHERE WHAT IT READS IS OF BULK AT MOST 1048576: true; the input reads as it did. -/
def fnExactPriceOfUptoRow : OpenClaim := { program := "ytbbfieonkkgkkaa", sum := "1b0c031b457c688619b17f117aefbb9601f86fedf9a09796f7d8ab308d60b862", func := "loop.example/g00940/laws.FnExactPriceOf", spec := "fnExactPriceOf", apart := false, narrowed := true }
def FnExactPriceOfUptoSaid : Prop := fnExactPriceOfUptoRow.holds Try.pinned (OpenSpec.upto fnExactPriceOfSpec)

/-- 'laws.FnExactRefundOf', WHERE WHAT IT READS IS OF BULK AT MOST 1048576: true; the input reads as it did. -/
def fnExactRefundOfUptoRow : OpenClaim := { program := "ytbbfieonkkgkkaa", sum := "1b0c031b457c688619b17f117aefbb9601f86fedf9a09796f7d8ab308d60b862", func := "loop.example/g00940/laws.FnExactRefundOf", spec := "fnExactRefundOf", apart := false, narrowed := true }
def FnExactRefundOfUptoSaid : Prop := fnExactRefundOfUptoRow.holds Try.pinned (OpenSpec.upto fnExactRefundOfSpec)

/-- 'laws.FnExactSplitPrice', WHERE WHAT IT READS IS OF BULK AT MOST 1048576: true; the input reads as it did. -/
def fnExactSplitPriceUptoRow : OpenClaim := { program := "ytbbfieonkkgkkaa", sum := "1b0c031b457c688619b17f117aefbb9601f86fedf9a09796f7d8ab308d60b862", func := "loop.example/g00940/laws.FnExactSplitPrice", spec := "fnExactSplitPrice", apart := false, narrowed := true }
def FnExactSplitPriceUptoSaid : Prop := fnExactSplitPriceUptoRow.holds Try.pinned (OpenSpec.upto fnExactSplitPriceSpec)

/-- 'laws.FnExactAreSent', WHERE WHAT IT READS IS OF BULK AT MOST 1048576: true; the input reads as it did. -/
def fnExactAreSentUptoRow : OpenClaim := { program := "ytbbfieonkkgkkaa", sum := "1b0c031b457c688619b17f117aefbb9601f86fedf9a09796f7d8ab308d60b862", func := "loop.example/g00940/laws.FnExactAreSent", spec := "fnExactAreSent", unfollowed := true, recurses := true, apart := false, narrowed := true }
def FnExactAreSentUptoSaid : Prop := fnExactAreSentUptoRow.holds Try.pinned (OpenSpec.upto fnExactAreSentSpec)

/-- 'laws.FnExactDearestOf', WHERE WHAT IT READS IS OF BULK AT MOST 1048576: true; the input reads as it did. -/
def fnExactDearestOfUptoRow : OpenClaim := { program := "ytbbfieonkkgkkaa", sum := "1b0c031b457c688619b17f117aefbb9601f86fedf9a09796f7d8ab308d60b862", func := "loop.example/g00940/laws.FnExactDearestOf", spec := "fnExactDearestOf", unfollowed := true, recurses := true, apart := false, narrowed := true }
def FnExactDearestOfUptoSaid : Prop := fnExactDearestOfUptoRow.holds Try.pinned (OpenSpec.upto fnExactDearestOfSpec)

/-- 'laws.FnExactBillOf', WHERE WHAT IT READS IS OF BULK AT MOST 1048576: true; the input reads as it did. -/
def fnExactBillOfUptoRow : OpenClaim := { program := "ytbbfieonkkgkkaa", sum := "1b0c031b457c688619b17f117aefbb9601f86fedf9a09796f7d8ab308d60b862", func := "loop.example/g00940/laws.FnExactBillOf", spec := "fnExactBillOf", unfollowed := true, recurses := true, apart := false, narrowed := true }
def FnExactBillOfUptoSaid : Prop := fnExactBillOfUptoRow.holds Try.pinned (OpenSpec.upto fnExactBillOfSpec)

/-- 'laws.FnExactComparePrices', WHERE WHAT IT READS IS OF BULK AT MOST 1048576: true; the input reads as it did. -/
def fnExactComparePricesUptoRow : OpenClaim := { program := "ytbbfieonkkgkkaa", sum := "1b0c031b457c688619b17f117aefbb9601f86fedf9a09796f7d8ab308d60b862", func := "loop.example/g00940/laws.FnExactComparePrices", spec := "fnExactComparePrices", unfollowed := true, recurses := true, apart := false, narrowed := true }
def FnExactComparePricesUptoSaid : Prop := fnExactComparePricesUptoRow.holds Try.pinned (OpenSpec.upto fnExactComparePricesSpec)

/-- 'laws.FnAffordable', WHERE WHAT IT READS IS OF BULK AT MOST 1048576: true; the input reads as it did. -/
def fnAffordableUptoRow : OpenClaim := { program := "ytbbfieonkkgkkaa", sum := "1b0c031b457c688619b17f117aefbb9601f86fedf9a09796f7d8ab308d60b862", func := "loop.example/g00940/laws.FnAffordable", spec := "fnAffordable", unfollowed := true, recurses := true, apart := false, narrowed := true }
def FnAffordableUptoSaid : Prop := fnAffordableUptoRow.holds Try.pinned (OpenSpec.upto fnAffordableSpec)

/-- 'laws.FnPrices', WHERE WHAT IT READS IS OF BULK AT MOST 1048576: true; the input reads as it did. -/
def fnPricesUptoRow : OpenClaim := { program := "ytbbfieonkkgkkaa", sum := "1b0c031b457c688619b17f117aefbb9601f86fedf9a09796f7d8ab308d60b862", func := "loop.example/g00940/laws.FnPrices", spec := "fnPrices", unfollowed := true, recurses := true, apart := false, narrowed := true }
def FnPricesUptoSaid : Prop := fnPricesUptoRow.holds Try.pinned (OpenSpec.upto fnPricesSpec)

end Rows
end Go.Proofs.Ytbbfieonkkgkkaa
