/-
  No cell of these rows narrows 'for every input' (looked for: loops, veiled, ifaces, maps, wideKeys, modest, calm, conditions, laid).
  DERIVED. THE GIVEN ROWS OF THIS SEAT. 12 by the template 'for every input the law returns true; each argument reads behind the call as it read before'; 0 by the template 'total and deterministic' (their statements: YtlalabdgkkfjpaaTotals.lean).
  GIVEN WITH THE SEED: the statements are not yours to turn. If you find one false, say at which input.
  Laid BY PROGRAM, IN A SANDBOX (cutbox-rows.mjs): the forced cells as the released guide's own fill.sh prints them over the translation d60bba41be47116a… (all of the seat's roots in one cut). By AI agents, Wed Nov 11 2026. No macro, syntax, notation, axiom, sorry.
-/
import Derived.Test.YtlalabdgkkfjpaaChecked
import GoSem.Claim
import GoSem.ClaimJoined
import GoSem.ClaimMapViews
import Derived.JoinedTies
import Derived.KernelRfl
namespace Go.Proofs.Ytlalabdgkkfjpaa
/- THE CELL 'sum', in the pinned program and in every row, IS THE sha256 OF THE DUMP (.gsa) THAT YtlalabdgkkfjpaaProg.lean LOADS. Nothing in Lean hashes anything: it is a label: what it is worth is what the hold of that sum in a sandbox is worth. -/
noncomputable def Try.pinned : Pinned := { name := "ytlalabdgkkfjpaa", sum := "d60bba41be47116aea4471cdc94a56f59da6944462d149c2f33964a2cafe3057", checked := Try.checked }
namespace Rows
def none {H : Type} : Left H := { results := [], args := [] }

/-- 'laws.FnExactIsNetwork': WHATEVER THE INPUT: true; the input reads as it did. -/
def fnExactIsNetworkSpec : ChangeSpec := { name := "fnExactIsNetwork", fn := fun _ => fun
  | [d] => { results := [.lit (.bool true)], args := [d] }
  | _ => none }
def fnExactIsNetworkRow : OpenClaim := { program := "ytlalabdgkkfjpaa", sum := "d60bba41be47116aea4471cdc94a56f59da6944462d149c2f33964a2cafe3057", func := "loop.example/g00940/laws.FnExactIsNetwork", spec := "fnExactIsNetwork", apart := false }
def FnExactIsNetworkSaid : Prop := fnExactIsNetworkRow.holds Try.pinned (OpenSpec.ofChange fnExactIsNetworkSpec)

/-- ITS FALSE NEIGHBOUR: 'it returns false'. Refute it at one input. -/
def fnExactIsNetworkWrong : ChangeSpec := { name := "fnExactIsNetwork", fn := fun _ => fun
  | [d] => { results := [.lit (.bool false)], args := [d] }
  | _ => none }
def FnExactIsNetworkWrongFalsely : Prop := fnExactIsNetworkRow.holds Try.pinned (OpenSpec.ofChange fnExactIsNetworkWrong)

/-- 'laws.FnExactNextMoment': WHATEVER THE INPUT: true; the input reads as it did. -/
def fnExactNextMomentSpec : ChangeSpec := { name := "fnExactNextMoment", fn := fun _ => fun
  | [d] => { results := [.lit (.bool true)], args := [d] }
  | _ => none }
def fnExactNextMomentRow : OpenClaim := { program := "ytlalabdgkkfjpaa", sum := "d60bba41be47116aea4471cdc94a56f59da6944462d149c2f33964a2cafe3057", func := "loop.example/g00940/laws.FnExactNextMoment", spec := "fnExactNextMoment", unfollowed := true, recurses := true, apart := false }
def FnExactNextMomentSaid : Prop := fnExactNextMomentRow.holds Try.pinned (OpenSpec.ofChange fnExactNextMomentSpec)

/-- ITS FALSE NEIGHBOUR: 'it returns false'. Refute it at one input. -/
def fnExactNextMomentWrong : ChangeSpec := { name := "fnExactNextMoment", fn := fun _ => fun
  | [d] => { results := [.lit (.bool false)], args := [d] }
  | _ => none }
def FnExactNextMomentWrongFalsely : Prop := fnExactNextMomentRow.holds Try.pinned (OpenSpec.ofChange fnExactNextMomentWrong)

/-- 'laws.FnExactWhereIs': WHATEVER THE INPUT: true; the input reads as it did. -/
def fnExactWhereIsSpec : ChangeSpec := { name := "fnExactWhereIs", fn := fun _ => fun
  | [d1, d2] => { results := [.lit (.bool true)], args := [d1, d2] }
  | _ => none }
def fnExactWhereIsRow : OpenClaim := { program := "ytlalabdgkkfjpaa", sum := "d60bba41be47116aea4471cdc94a56f59da6944462d149c2f33964a2cafe3057", func := "loop.example/g00940/laws.FnExactWhereIs", spec := "fnExactWhereIs", apart := false }
def FnExactWhereIsSaid : Prop := fnExactWhereIsRow.holds Try.pinned (OpenSpec.ofChange fnExactWhereIsSpec)

/-- ITS FALSE NEIGHBOUR: 'it returns false'. Refute it at one input. -/
def fnExactWhereIsWrong : ChangeSpec := { name := "fnExactWhereIs", fn := fun _ => fun
  | [d1, d2] => { results := [.lit (.bool false)], args := [d1, d2] }
  | _ => none }
def FnExactWhereIsWrongFalsely : Prop := fnExactWhereIsRow.holds Try.pinned (OpenSpec.ofChange fnExactWhereIsWrong)

/-- 'laws.FnExactNewNetwork': WHATEVER THE INPUT: true; the input reads as it did. -/
def fnExactNewNetworkSpec : ChangeSpec := { name := "fnExactNewNetwork", fn := fun _ => fun
  | [d1, d2] => { results := [.lit (.bool true)], args := [d1, d2] }
  | _ => none }
def fnExactNewNetworkRow : OpenClaim := { program := "ytlalabdgkkfjpaa", sum := "d60bba41be47116aea4471cdc94a56f59da6944462d149c2f33964a2cafe3057", func := "loop.example/g00940/laws.FnExactNewNetwork", spec := "fnExactNewNetwork", apart := false }
def FnExactNewNetworkSaid : Prop := fnExactNewNetworkRow.holds Try.pinned (OpenSpec.ofChange fnExactNewNetworkSpec)

/-- ITS FALSE NEIGHBOUR: 'it returns false'. Refute it at one input. -/
def fnExactNewNetworkWrong : ChangeSpec := { name := "fnExactNewNetwork", fn := fun _ => fun
  | [d1, d2] => { results := [.lit (.bool false)], args := [d1, d2] }
  | _ => none }
def FnExactNewNetworkWrongFalsely : Prop := fnExactNewNetworkRow.holds Try.pinned (OpenSpec.ofChange fnExactNewNetworkWrong)

/-- 'laws.FnExactArrivedMessages': WHATEVER THE INPUT: true; the input reads as it did. -/
def fnExactArrivedMessagesSpec : ChangeSpec := { name := "fnExactArrivedMessages", fn := fun _ => fun
  | [d] => { results := [.lit (.bool true)], args := [d] }
  | _ => none }
def fnExactArrivedMessagesRow : OpenClaim := { program := "ytlalabdgkkfjpaa", sum := "d60bba41be47116aea4471cdc94a56f59da6944462d149c2f33964a2cafe3057", func := "loop.example/g00940/laws.FnExactArrivedMessages", spec := "fnExactArrivedMessages", unfollowed := true, recurses := true, apart := false }
def FnExactArrivedMessagesSaid : Prop := fnExactArrivedMessagesRow.holds Try.pinned (OpenSpec.ofChange fnExactArrivedMessagesSpec)

/-- ITS FALSE NEIGHBOUR: 'it returns false'. Refute it at one input. -/
def fnExactArrivedMessagesWrong : ChangeSpec := { name := "fnExactArrivedMessages", fn := fun _ => fun
  | [d] => { results := [.lit (.bool false)], args := [d] }
  | _ => none }
def FnExactArrivedMessagesWrongFalsely : Prop := fnExactArrivedMessagesRow.holds Try.pinned (OpenSpec.ofChange fnExactArrivedMessagesWrong)

/-- 'laws.FnExactAllowedPasses': WHATEVER THE INPUT: true; the input reads as it did. -/
def fnExactAllowedPassesSpec : ChangeSpec := { name := "fnExactAllowedPasses", fn := fun _ => fun
  | [d] => { results := [.lit (.bool true)], args := [d] }
  | _ => none }
def fnExactAllowedPassesRow : OpenClaim := { program := "ytlalabdgkkfjpaa", sum := "d60bba41be47116aea4471cdc94a56f59da6944462d149c2f33964a2cafe3057", func := "loop.example/g00940/laws.FnExactAllowedPasses", spec := "fnExactAllowedPasses", unfollowed := true, recurses := true, apart := false }
def FnExactAllowedPassesSaid : Prop := fnExactAllowedPassesRow.holds Try.pinned (OpenSpec.ofChange fnExactAllowedPassesSpec)

/-- ITS FALSE NEIGHBOUR: 'it returns false'. Refute it at one input. -/
def fnExactAllowedPassesWrong : ChangeSpec := { name := "fnExactAllowedPasses", fn := fun _ => fun
  | [d] => { results := [.lit (.bool false)], args := [d] }
  | _ => none }
def FnExactAllowedPassesWrongFalsely : Prop := fnExactAllowedPassesRow.holds Try.pinned (OpenSpec.ofChange fnExactAllowedPassesWrong)

/-- 'laws.FnExactAcceptParcels': WHATEVER THE INPUT: true; the input reads as it did. -/
def fnExactAcceptParcelsSpec : ChangeSpec := { name := "fnExactAcceptParcels", fn := fun _ => fun
  | [d1, d2, d3, d4, d5] => { results := [.lit (.bool true)], args := [d1, d2, d3, d4, d5] }
  | _ => none }
def fnExactAcceptParcelsRow : OpenClaim := { program := "ytlalabdgkkfjpaa", sum := "d60bba41be47116aea4471cdc94a56f59da6944462d149c2f33964a2cafe3057", func := "loop.example/g00940/laws.FnExactAcceptParcels", spec := "fnExactAcceptParcels", inPlace := ["slices.overlaps[loop.example/g00940/impl.Parcel]"], unfollowed := true, recurses := true, apart := false }
def FnExactAcceptParcelsSaid : Prop := fnExactAcceptParcelsRow.holds Try.pinned (OpenSpec.ofChange fnExactAcceptParcelsSpec)

/-- ITS FALSE NEIGHBOUR: 'it returns false'. Refute it at one input. -/
def fnExactAcceptParcelsWrong : ChangeSpec := { name := "fnExactAcceptParcels", fn := fun _ => fun
  | [d1, d2, d3, d4, d5] => { results := [.lit (.bool false)], args := [d1, d2, d3, d4, d5] }
  | _ => none }
def FnExactAcceptParcelsWrongFalsely : Prop := fnExactAcceptParcelsRow.holds Try.pinned (OpenSpec.ofChange fnExactAcceptParcelsWrong)

/-- 'laws.FnExactPassParcel': WHATEVER THE INPUT: true; the input reads as it did. -/
def fnExactPassParcelSpec : ChangeSpec := { name := "fnExactPassParcel", fn := fun _ => fun
  | [d1, d2, d3, d4] => { results := [.lit (.bool true)], args := [d1, d2, d3, d4] }
  | _ => none }
def fnExactPassParcelRow : OpenClaim := { program := "ytlalabdgkkfjpaa", sum := "d60bba41be47116aea4471cdc94a56f59da6944462d149c2f33964a2cafe3057", func := "loop.example/g00940/laws.FnExactPassParcel", spec := "fnExactPassParcel", inPlace := ["slices.overlaps[loop.example/g00940/impl.Parcel]"], unfollowed := true, recurses := true, apart := false }
def FnExactPassParcelSaid : Prop := fnExactPassParcelRow.holds Try.pinned (OpenSpec.ofChange fnExactPassParcelSpec)

/-- ITS FALSE NEIGHBOUR: 'it returns false'. Refute it at one input. -/
def fnExactPassParcelWrong : ChangeSpec := { name := "fnExactPassParcel", fn := fun _ => fun
  | [d1, d2, d3, d4] => { results := [.lit (.bool false)], args := [d1, d2, d3, d4] }
  | _ => none }
def FnExactPassParcelWrongFalsely : Prop := fnExactPassParcelRow.holds Try.pinned (OpenSpec.ofChange fnExactPassParcelWrong)

/-- 'laws.FnExactWaitSeconds': WHATEVER THE INPUT: true; the input reads as it did. -/
def fnExactWaitSecondsSpec : ChangeSpec := { name := "fnExactWaitSeconds", fn := fun _ => fun
  | [d1, d2] => { results := [.lit (.bool true)], args := [d1, d2] }
  | _ => none }
def fnExactWaitSecondsRow : OpenClaim := { program := "ytlalabdgkkfjpaa", sum := "d60bba41be47116aea4471cdc94a56f59da6944462d149c2f33964a2cafe3057", func := "loop.example/g00940/laws.FnExactWaitSeconds", spec := "fnExactWaitSeconds", inPlace := ["slices.overlaps[loop.example/g00940/impl.Parcel]"], unfollowed := true, recurses := true, apart := false }
def FnExactWaitSecondsSaid : Prop := fnExactWaitSecondsRow.holds Try.pinned (OpenSpec.ofChange fnExactWaitSecondsSpec)

/-- ITS FALSE NEIGHBOUR: 'it returns false'. Refute it at one input. -/
def fnExactWaitSecondsWrong : ChangeSpec := { name := "fnExactWaitSeconds", fn := fun _ => fun
  | [d1, d2] => { results := [.lit (.bool false)], args := [d1, d2] }
  | _ => none }
def FnExactWaitSecondsWrongFalsely : Prop := fnExactWaitSecondsRow.holds Try.pinned (OpenSpec.ofChange fnExactWaitSecondsWrong)

/-- 'laws.FnExactRunActs': WHATEVER THE INPUT: true; the input reads as it did. -/
def fnExactRunActsSpec : ChangeSpec := { name := "fnExactRunActs", fn := fun _ => fun
  | [d1, d2] => { results := [.lit (.bool true)], args := [d1, d2] }
  | _ => none }
def fnExactRunActsRow : OpenClaim := { program := "ytlalabdgkkfjpaa", sum := "d60bba41be47116aea4471cdc94a56f59da6944462d149c2f33964a2cafe3057", func := "loop.example/g00940/laws.FnExactRunActs", spec := "fnExactRunActs", inPlace := ["slices.overlaps[loop.example/g00940/impl.Parcel]"], unfollowed := true, recurses := true, apart := false }
def FnExactRunActsSaid : Prop := fnExactRunActsRow.holds Try.pinned (OpenSpec.ofChange fnExactRunActsSpec)

/-- ITS FALSE NEIGHBOUR: 'it returns false'. Refute it at one input. -/
def fnExactRunActsWrong : ChangeSpec := { name := "fnExactRunActs", fn := fun _ => fun
  | [d1, d2] => { results := [.lit (.bool false)], args := [d1, d2] }
  | _ => none }
def FnExactRunActsWrongFalsely : Prop := fnExactRunActsRow.holds Try.pinned (OpenSpec.ofChange fnExactRunActsWrong)

/-- 'laws.FnActs': WHATEVER THE INPUT: true; the input reads as it did. -/
def fnActsSpec : ChangeSpec := { name := "fnActs", fn := fun _ => fun
  | [d1, d2] => { results := [.lit (.bool true)], args := [d1, d2] }
  | _ => none }
def fnActsRow : OpenClaim := { program := "ytlalabdgkkfjpaa", sum := "d60bba41be47116aea4471cdc94a56f59da6944462d149c2f33964a2cafe3057", func := "loop.example/g00940/laws.FnActs", spec := "fnActs", inPlace := ["slices.overlaps[loop.example/g00940/impl.Parcel]"], unfollowed := true, recurses := true, apart := false }
def FnActsSaid : Prop := fnActsRow.holds Try.pinned (OpenSpec.ofChange fnActsSpec)

/-- ITS FALSE NEIGHBOUR: 'it returns false'. Refute it at one input. -/
def fnActsWrong : ChangeSpec := { name := "fnActs", fn := fun _ => fun
  | [d1, d2] => { results := [.lit (.bool false)], args := [d1, d2] }
  | _ => none }
def FnActsWrongFalsely : Prop := fnActsRow.holds Try.pinned (OpenSpec.ofChange fnActsWrong)

/-- 'laws.FnNetworks': WHATEVER THE INPUT: true; the input reads as it did. -/
def fnNetworksSpec : ChangeSpec := { name := "fnNetworks", fn := fun _ => fun
  | [d1, d2] => { results := [.lit (.bool true)], args := [d1, d2] }
  | _ => none }
def fnNetworksRow : OpenClaim := { program := "ytlalabdgkkfjpaa", sum := "d60bba41be47116aea4471cdc94a56f59da6944462d149c2f33964a2cafe3057", func := "loop.example/g00940/laws.FnNetworks", spec := "fnNetworks", inPlace := ["slices.overlaps[loop.example/g00940/impl.Parcel]"], unfollowed := true, recurses := true, apart := false }
def FnNetworksSaid : Prop := fnNetworksRow.holds Try.pinned (OpenSpec.ofChange fnNetworksSpec)

/-- ITS FALSE NEIGHBOUR: 'it returns false'. Refute it at one input. -/
def fnNetworksWrong : ChangeSpec := { name := "fnNetworks", fn := fun _ => fun
  | [d1, d2] => { results := [.lit (.bool false)], args := [d1, d2] }
  | _ => none }
def FnNetworksWrongFalsely : Prop := fnNetworksRow.holds Try.pinned (OpenSpec.ofChange fnNetworksWrong)

/- THE SECOND FORM. 'bulk': how many values and letters a reading holds, each counted each time it is reached (what is shared counts as often as it is met; a slice's spare places count too). A statement '..UptoSaid' is the law's where the arguments, and the package variables that the reading takes, are together of bulk at most 1048576: NARROWER than '..Said'. Prove '..Said' where nothing that the law and all that it calls make is longer than what came in: it says more and counts as full. Else prove '..UptoSaid'. A law counts once. -/
mutual
def uptoBulk {H : Type} : DataW H → Nat
  | .lit (.string bytes) => bytes.length + 1
  | .lit _ => 1
  | .nil => 1
  | .ptr d => uptoBulk d + 1
  | .slice elems spare => uptoBulkAll elems + uptoBulkAll spare + 1
  | .agg parts => uptoBulkAll parts + 1
  | .iface _ d => uptoBulk d + 1
  | .map entries => uptoBulkEntries entries + 1
  | .held _ => 1
def uptoBulkAll {H : Type} : List (DataW H) → Nat
  | [] => 0
  | d :: r => uptoBulk d + uptoBulkAll r
def uptoBulkEntries {H : Type} : List (Lit × DataW H) → Nat
  | [] => 0
  | x :: r => uptoBulkEntry x + uptoBulkEntries r
def uptoBulkEntry {H : Type} : Lit × DataW H → Nat
  | (.string bytes, d) => bytes.length + uptoBulk d + 1
  | (_, d) => uptoBulk d + 1
 end
def uptoSmall : (H : Type) → List (DataW H) → Bool := fun _ ds => decide (uptoBulkAll ds ≤ 1048576)
def OpenSpec.upto (s : _root_.Go.ChangeSpec) : _root_.Go.OpenSpec := { _root_.Go.OpenSpec.ofChange s with cond := some uptoSmall }

/-- 'laws.FnExactIsNetwork', WHERE WHAT IT READS IS OF BULK AT MOST 1048576: true; the input reads as it did. -/
def fnExactIsNetworkUptoRow : OpenClaim := { program := "ytlalabdgkkfjpaa", sum := "d60bba41be47116aea4471cdc94a56f59da6944462d149c2f33964a2cafe3057", func := "loop.example/g00940/laws.FnExactIsNetwork", spec := "fnExactIsNetwork", apart := false, narrowed := true }
def FnExactIsNetworkUptoSaid : Prop := fnExactIsNetworkUptoRow.holds Try.pinned (OpenSpec.upto fnExactIsNetworkSpec)

/-- 'laws.FnExactNextMoment', WHERE WHAT IT READS IS OF BULK AT MOST 1048576: true; the input reads as it did. -/
def fnExactNextMomentUptoRow : OpenClaim := { program := "ytlalabdgkkfjpaa", sum := "d60bba41be47116aea4471cdc94a56f59da6944462d149c2f33964a2cafe3057", func := "loop.example/g00940/laws.FnExactNextMoment", spec := "fnExactNextMoment", unfollowed := true, recurses := true, apart := false, narrowed := true }
def FnExactNextMomentUptoSaid : Prop := fnExactNextMomentUptoRow.holds Try.pinned (OpenSpec.upto fnExactNextMomentSpec)

/-- 'laws.FnExactWhereIs', WHERE WHAT IT READS IS OF BULK AT MOST 1048576: true; the input reads as it did. -/
def fnExactWhereIsUptoRow : OpenClaim := { program := "ytlalabdgkkfjpaa", sum := "d60bba41be47116aea4471cdc94a56f59da6944462d149c2f33964a2cafe3057", func := "loop.example/g00940/laws.FnExactWhereIs", spec := "fnExactWhereIs", apart := false, narrowed := true }
def FnExactWhereIsUptoSaid : Prop := fnExactWhereIsUptoRow.holds Try.pinned (OpenSpec.upto fnExactWhereIsSpec)

/-- 'laws.FnExactNewNetwork', WHERE WHAT IT READS IS OF BULK AT MOST 1048576: true; the input reads as it did. -/
def fnExactNewNetworkUptoRow : OpenClaim := { program := "ytlalabdgkkfjpaa", sum := "d60bba41be47116aea4471cdc94a56f59da6944462d149c2f33964a2cafe3057", func := "loop.example/g00940/laws.FnExactNewNetwork", spec := "fnExactNewNetwork", apart := false, narrowed := true }
def FnExactNewNetworkUptoSaid : Prop := fnExactNewNetworkUptoRow.holds Try.pinned (OpenSpec.upto fnExactNewNetworkSpec)

/-- 'laws.FnExactArrivedMessages', WHERE WHAT IT READS IS OF BULK AT MOST 1048576: true; the input reads as it did. -/
def fnExactArrivedMessagesUptoRow : OpenClaim := { program := "ytlalabdgkkfjpaa", sum := "d60bba41be47116aea4471cdc94a56f59da6944462d149c2f33964a2cafe3057", func := "loop.example/g00940/laws.FnExactArrivedMessages", spec := "fnExactArrivedMessages", unfollowed := true, recurses := true, apart := false, narrowed := true }
def FnExactArrivedMessagesUptoSaid : Prop := fnExactArrivedMessagesUptoRow.holds Try.pinned (OpenSpec.upto fnExactArrivedMessagesSpec)

/-- 'laws.FnExactAllowedPasses', WHERE WHAT IT READS IS OF BULK AT MOST 1048576: true; the input reads as it did. -/
def fnExactAllowedPassesUptoRow : OpenClaim := { program := "ytlalabdgkkfjpaa", sum := "d60bba41be47116aea4471cdc94a56f59da6944462d149c2f33964a2cafe3057", func := "loop.example/g00940/laws.FnExactAllowedPasses", spec := "fnExactAllowedPasses", unfollowed := true, recurses := true, apart := false, narrowed := true }
def FnExactAllowedPassesUptoSaid : Prop := fnExactAllowedPassesUptoRow.holds Try.pinned (OpenSpec.upto fnExactAllowedPassesSpec)

/-- 'laws.FnExactAcceptParcels', WHERE WHAT IT READS IS OF BULK AT MOST 1048576: true; the input reads as it did. -/
def fnExactAcceptParcelsUptoRow : OpenClaim := { program := "ytlalabdgkkfjpaa", sum := "d60bba41be47116aea4471cdc94a56f59da6944462d149c2f33964a2cafe3057", func := "loop.example/g00940/laws.FnExactAcceptParcels", spec := "fnExactAcceptParcels", inPlace := ["slices.overlaps[loop.example/g00940/impl.Parcel]"], unfollowed := true, recurses := true, apart := false, narrowed := true }
def FnExactAcceptParcelsUptoSaid : Prop := fnExactAcceptParcelsUptoRow.holds Try.pinned (OpenSpec.upto fnExactAcceptParcelsSpec)

/-- 'laws.FnExactPassParcel', WHERE WHAT IT READS IS OF BULK AT MOST 1048576: true; the input reads as it did. -/
def fnExactPassParcelUptoRow : OpenClaim := { program := "ytlalabdgkkfjpaa", sum := "d60bba41be47116aea4471cdc94a56f59da6944462d149c2f33964a2cafe3057", func := "loop.example/g00940/laws.FnExactPassParcel", spec := "fnExactPassParcel", inPlace := ["slices.overlaps[loop.example/g00940/impl.Parcel]"], unfollowed := true, recurses := true, apart := false, narrowed := true }
def FnExactPassParcelUptoSaid : Prop := fnExactPassParcelUptoRow.holds Try.pinned (OpenSpec.upto fnExactPassParcelSpec)

/-- 'laws.FnExactWaitSeconds', WHERE WHAT IT READS IS OF BULK AT MOST 1048576: true; the input reads as it did. -/
def fnExactWaitSecondsUptoRow : OpenClaim := { program := "ytlalabdgkkfjpaa", sum := "d60bba41be47116aea4471cdc94a56f59da6944462d149c2f33964a2cafe3057", func := "loop.example/g00940/laws.FnExactWaitSeconds", spec := "fnExactWaitSeconds", inPlace := ["slices.overlaps[loop.example/g00940/impl.Parcel]"], unfollowed := true, recurses := true, apart := false, narrowed := true }
def FnExactWaitSecondsUptoSaid : Prop := fnExactWaitSecondsUptoRow.holds Try.pinned (OpenSpec.upto fnExactWaitSecondsSpec)

/-- 'laws.FnExactRunActs', WHERE WHAT IT READS IS OF BULK AT MOST 1048576: true; the input reads as it did. -/
def fnExactRunActsUptoRow : OpenClaim := { program := "ytlalabdgkkfjpaa", sum := "d60bba41be47116aea4471cdc94a56f59da6944462d149c2f33964a2cafe3057", func := "loop.example/g00940/laws.FnExactRunActs", spec := "fnExactRunActs", inPlace := ["slices.overlaps[loop.example/g00940/impl.Parcel]"], unfollowed := true, recurses := true, apart := false, narrowed := true }
def FnExactRunActsUptoSaid : Prop := fnExactRunActsUptoRow.holds Try.pinned (OpenSpec.upto fnExactRunActsSpec)

/-- 'laws.FnActs', WHERE WHAT IT READS IS OF BULK AT MOST 1048576: true; the input reads as it did. -/
def fnActsUptoRow : OpenClaim := { program := "ytlalabdgkkfjpaa", sum := "d60bba41be47116aea4471cdc94a56f59da6944462d149c2f33964a2cafe3057", func := "loop.example/g00940/laws.FnActs", spec := "fnActs", inPlace := ["slices.overlaps[loop.example/g00940/impl.Parcel]"], unfollowed := true, recurses := true, apart := false, narrowed := true }
def FnActsUptoSaid : Prop := fnActsUptoRow.holds Try.pinned (OpenSpec.upto fnActsSpec)

/-- 'laws.FnNetworks', WHERE WHAT IT READS IS OF BULK AT MOST 1048576: true; the input reads as it did. -/
def fnNetworksUptoRow : OpenClaim := { program := "ytlalabdgkkfjpaa", sum := "d60bba41be47116aea4471cdc94a56f59da6944462d149c2f33964a2cafe3057", func := "loop.example/g00940/laws.FnNetworks", spec := "fnNetworks", inPlace := ["slices.overlaps[loop.example/g00940/impl.Parcel]"], unfollowed := true, recurses := true, apart := false, narrowed := true }
def FnNetworksUptoSaid : Prop := fnNetworksUptoRow.holds Try.pinned (OpenSpec.upto fnNetworksSpec)

end Rows
end Go.Proofs.Ytlalabdgkkfjpaa
