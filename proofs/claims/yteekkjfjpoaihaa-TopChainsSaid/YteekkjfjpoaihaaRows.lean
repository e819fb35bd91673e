/-
  No cell of these rows narrows 'for every input' (looked for: loops, veiled, ifaces, maps, wideKeys, modest, calm, conditions, laid).
  DERIVED. THE GIVEN ROWS OF THIS SEAT. 4 by the template 'for every input the law returns true; each argument reads behind the call as it read before'; 0 by the template 'total and deterministic' (their statements: YteekkjfjpoaihaaTotals.lean).
  GIVEN WITH THE SEED: the statements are not yours to turn. If you find one false, say at which input.
  Laid BY PROGRAM, IN A SANDBOX (cutbox-rows.mjs): the forced cells as the released guide's own fill.sh prints them over the translation 7c07494e17446a91… (all of the seat's roots in one cut). By AI agents, Wed Nov 11 2026. No macro, syntax, notation, axiom, sorry.
-/
import Derived.Test.YteekkjfjpoaihaaChecked
import GoSem.Claim
import GoSem.ClaimJoined
import GoSem.ClaimMapViews
import Derived.JoinedTies
import Derived.KernelRfl
namespace Go.Proofs.Yteekkjfjpoaihaa
/- THE CELL 'sum', in the pinned program and in every row, IS THE sha256 OF THE DUMP (.gsa) THAT YteekkjfjpoaihaaProg.lean LOADS. Nothing in Lean hashes anything: it is a label: what it is worth is what the hold of that sum in a sandbox is worth. -/
noncomputable def Try.pinned : Pinned := { name := "yteekkjfjpoaihaa", sum := "7c07494e17446a9158c272a13c50ce687873269fd12497c78255f71cf62a4bec", checked := Try.checked }
namespace Rows
def none {H : Type} : Left H := { results := [], args := [] }

/-- 'girouettelaw03.OrdersEven': WHATEVER THE INPUT: true; the input reads as it did. -/
def ordersEvenSpec : ChangeSpec := { name := "ordersEven", fn := fun _ => fun
  | [d1, d2] => { results := [.lit (.bool true)], args := [d1, d2] }
  | _ => none }
def ordersEvenRow : OpenClaim := { program := "yteekkjfjpoaihaa", sum := "7c07494e17446a9158c272a13c50ce687873269fd12497c78255f71cf62a4bec", func := "girouette/girouettelaw03.OrdersEven", spec := "ordersEven", unfollowed := true, recurses := true, plainKeys := false, apart := false }
def OrdersEvenSaid : Prop := ordersEvenRow.holds Try.pinned (OpenSpec.ofChange ordersEvenSpec)

/-- ITS FALSE NEIGHBOUR: 'it returns false'. Refute it at one input. -/
def ordersEvenWrong : ChangeSpec := { name := "ordersEven", fn := fun _ => fun
  | [d1, d2] => { results := [.lit (.bool false)], args := [d1, d2] }
  | _ => none }
def OrdersEvenWrongFalsely : Prop := ordersEvenRow.holds Try.pinned (OpenSpec.ofChange ordersEvenWrong)

/-- 'girouettetop.TopChains': WHATEVER THE INPUT: true; the input reads as it did. -/
def topChainsSpec : ChangeSpec := { name := "topChains", fn := fun _ => fun
  | [d1, d2] => { results := [.lit (.bool true)], args := [d1, d2] }
  | _ => none }
def topChainsRow : OpenClaim := { program := "yteekkjfjpoaihaa", sum := "7c07494e17446a9158c272a13c50ce687873269fd12497c78255f71cf62a4bec", func := "girouette/girouettetop.TopChains", spec := "topChains", unfollowed := true, recurses := true, plainKeys := false, apart := false }
def TopChainsSaid : Prop := topChainsRow.holds Try.pinned (OpenSpec.ofChange topChainsSpec)

/-- ITS FALSE NEIGHBOUR: 'it returns false'. Refute it at one input. -/
def topChainsWrong : ChangeSpec := { name := "topChains", fn := fun _ => fun
  | [d1, d2] => { results := [.lit (.bool false)], args := [d1, d2] }
  | _ => none }
def TopChainsWrongFalsely : Prop := topChainsRow.holds Try.pinned (OpenSpec.ofChange topChainsWrong)

/-- 'girouettelaw03.OrdersOrders': WHATEVER THE INPUT: true; the input reads as it did. -/
def ordersOrdersSpec : ChangeSpec := { name := "ordersOrders", fn := fun _ => fun
  | [d1, d2, d3] => { results := [.lit (.bool true)], args := [d1, d2, d3] }
  | _ => none }
def ordersOrdersRow : OpenClaim := { program := "yteekkjfjpoaihaa", sum := "7c07494e17446a9158c272a13c50ce687873269fd12497c78255f71cf62a4bec", func := "girouette/girouettelaw03.OrdersOrders", spec := "ordersOrders", unfollowed := true, recurses := true, plainKeys := false, apart := false }
def OrdersOrdersSaid : Prop := ordersOrdersRow.holds Try.pinned (OpenSpec.ofChange ordersOrdersSpec)

/-- ITS FALSE NEIGHBOUR: 'it returns false'. Refute it at one input. -/
def ordersOrdersWrong : ChangeSpec := { name := "ordersOrders", fn := fun _ => fun
  | [d1, d2, d3] => { results := [.lit (.bool false)], args := [d1, d2, d3] }
  | _ => none }
def OrdersOrdersWrongFalsely : Prop := ordersOrdersRow.holds Try.pinned (OpenSpec.ofChange ordersOrdersWrong)

/-- 'girouettelaw03.OrdersChecks': WHATEVER THE INPUT: true; the input reads as it did. -/
def ordersChecksSpec : ChangeSpec := { name := "ordersChecks", fn := fun _ => fun
  | [d1, d2, d3] => { results := [.lit (.bool true)], args := [d1, d2, d3] }
  | _ => none }
def ordersChecksRow : OpenClaim := { program := "yteekkjfjpoaihaa", sum := "7c07494e17446a9158c272a13c50ce687873269fd12497c78255f71cf62a4bec", func := "girouette/girouettelaw03.OrdersChecks", spec := "ordersChecks", unfollowed := true, recurses := true, plainKeys := false, apart := false }
def OrdersChecksSaid : Prop := ordersChecksRow.holds Try.pinned (OpenSpec.ofChange ordersChecksSpec)

/-- ITS FALSE NEIGHBOUR: 'it returns false'. Refute it at one input. -/
def ordersChecksWrong : ChangeSpec := { name := "ordersChecks", fn := fun _ => fun
  | [d1, d2, d3] => { results := [.lit (.bool false)], args := [d1, d2, d3] }
  | _ => none }
def OrdersChecksWrongFalsely : Prop := ordersChecksRow.holds Try.pinned (OpenSpec.ofChange ordersChecksWrong)

/- THE SECOND FORM. 'bulk': how many values and letters a reading holds, each counted each time it is reached (what is shared counts as often as it is met; a slice's spare places count too). A statement '..UptoSaid' is the law's where the arguments, and the package variables that the reading takes, are together of bulk at most 1048576: NARROWER than '..Said'. Prove '..Said' where nothing that the law and all that it calls make is longer than what came in: it says more and counts as full. Else prove '..UptoSaid'. A law counts once. -/
mutual
def uptoBulk {H : Type} : DataW H → Nat
  | .lit (.string bytes) => bytes.length + 1
  | .lit _ => 1
  | .nil => 1
  | .ptr d => uptoBulk d + 1
  | .slice elems spare => uptoBulkAll elems + uptoBulkAll spare + 1
  | .agg parts => uptoBulkAll parts + 1
  | .iface _ d => uptoBulk d + 1
  | .map entries => uptoBulkEntries entries + 1
  | .held _ => 1
def uptoBulkAll {H : Type} : List (DataW H) → Nat
  | [] => 0
  | d :: r => uptoBulk d + uptoBulkAll r
def uptoBulkEntries {H : Type} : List (Lit × DataW H) → Nat
  | [] => 0
  | x :: r => uptoBulkEntry x + uptoBulkEntries r
def uptoBulkEntry {H : Type} : Lit × DataW H → Nat
  | (.string bytes, d) => bytes.length + uptoBulk d + 1
  | (_, d) => uptoBulk d + 1
 end
def uptoSmall : (H : Type) → List (DataW H) → Bool := fun _ ds => decide (uptoBulkAll ds ≤ 1048576)
def OpenSpec.upto (s : _root_.Go.ChangeSpec) : _root_.Go.OpenSpec := { _root_.Go.OpenSpec.ofChange s with cond := some uptoSmall }

/-- 'girouettelaw03.OrdersEven', WHERE WHAT IT READS IS OF BULK AT MOST 1048576: true; the input reads as it did. -/
def ordersEvenUptoRow : OpenClaim := { program := "yteekkjfjpoaihaa", sum := "7c07494e17446a9158c272a13c50ce687873269fd12497c78255f71cf62a4bec", func := "girouette/girouettelaw03.OrdersEven", spec := "ordersEven", unfollowed := true, recurses := true, plainKeys := false, apart := false, narrowed := true }
def OrdersEvenUptoSaid : Prop := ordersEvenUptoRow.holds Try.pinned (OpenSpec.upto ordersEvenSpec)

/-- 'girouettetop.TopChains', WHERE WHAT IT READS IS OF BULK AT MOST 1048576: true; the input reads as it did. -/
def topChainsUptoRow : OpenClaim := { program := "yteekkjfjpoaihaa", sum := "7c07494e17446a9158c272a13c50ce687873269fd12497c78255f71cf62a4bec", func := "girouette/girouettetop.TopChains", spec := "topChains", unfollowed := true, recurses := true, plainKeys := false, apart := false, narrowed := true }
def TopChainsUptoSaid : Prop := topChainsUptoRow.holds Try.pinned (OpenSpec.upto topChainsSpec)

/-- 'girouettelaw03.OrdersOrders', WHERE WHAT IT READS IS OF BULK AT MOST 1048576: true; the input reads as it did. -/
def ordersOrdersUptoRow : OpenClaim := { program := "yteekkjfjpoaihaa", sum := "7c07494e17446a9158c272a13c50ce687873269fd12497c78255f71cf62a4bec", func := "girouette/girouettelaw03.OrdersOrders", spec := "ordersOrders", unfollowed := true, recurses := true, plainKeys := false, apart := false, narrowed := true }
def OrdersOrdersUptoSaid : Prop := ordersOrdersUptoRow.holds Try.pinned (OpenSpec.upto ordersOrdersSpec)

/-- 'girouettelaw03.OrdersChecks', WHERE WHAT IT READS IS OF BULK AT MOST 1048576: true; the input reads as it did. -/
def ordersChecksUptoRow : OpenClaim := { program := "yteekkjfjpoaihaa", sum := "7c07494e17446a9158c272a13c50ce687873269fd12497c78255f71cf62a4bec", func := "girouette/girouettelaw03.OrdersChecks", spec := "ordersChecks", unfollowed := true, recurses := true, plainKeys := false, apart := false, narrowed := true }
def OrdersChecksUptoSaid : Prop := ordersChecksUptoRow.holds Try.pinned (OpenSpec.upto ordersChecksSpec)

end Rows
end Go.Proofs.Yteekkjfjpoaihaa
