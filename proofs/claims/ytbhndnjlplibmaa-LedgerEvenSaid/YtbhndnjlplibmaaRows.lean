/-
  No cell of these rows narrows 'for every input' (looked for: loops, veiled, ifaces, maps, wideKeys, modest, calm, conditions, laid).
  DERIVED. THE GIVEN ROWS OF THIS SEAT. 6 by the template 'for every input the law returns true; each argument reads behind the call as it read before'; 0 by the template 'total and deterministic' (their statements: YtbhndnjlplibmaaTotals.lean).
  GIVEN WITH THE SEED: the statements are not yours to turn. If you find one false, say at which input.
  Laid BY PROGRAM, IN A SANDBOX (cutbox-rows.mjs): the forced cells as the released guide's own fill.sh prints them over the translation 26939292e1c44c9d… (all of the seat's roots in one cut). By AI agents, Wed Nov 11 2026. No macro, syntax, notation, axiom, sorry.
-/
import Derived.Test.YtbhndnjlplibmaaChecked
import GoSem.Claim
import GoSem.ClaimJoined
import GoSem.ClaimMapViews
import Derived.JoinedTies
import Derived.KernelRfl
namespace Go.Proofs.Ytbhndnjlplibmaa
/- THE CELL 'sum', in the pinned program and in every row, IS THE sha256 OF THE DUMP (.gsa) THAT YtbhndnjlplibmaaProg.lean LOADS. Nothing in Lean hashes anything: it is a label: what it is worth is what the hold of that sum in a sandbox is worth. -/
noncomputable def Try.pinned : Pinned := { name := "ytbhndnjlplibmaa", sum := "26939292e1c44c9d979c8df5b4fe3839e5cc02130305abd0d1021d0a7be7d5bf", checked := Try.checked }
namespace Rows
def none {H : Type} : Left H := { results := [], args := [] }

/-- 'daylaw1.Names': WHATEVER THE INPUT: true; the input reads as it did. -/
def namesSpec : ChangeSpec := { name := "names", fn := fun _ => fun
  | [] => { results := [.lit (.bool true)], args := [] }
  | _ => none }
def namesRow : OpenClaim := { program := "ytbhndnjlplibmaa", sum := "26939292e1c44c9d979c8df5b4fe3839e5cc02130305abd0d1021d0a7be7d5bf", func := "quarterday/daylaw1.Names", spec := "names", plainKeys := false, apart := false }
def NamesSaid : Prop := namesRow.holds Try.pinned (OpenSpec.ofChange namesSpec)

/-- ITS FALSE NEIGHBOUR: 'it returns false'. Refute it at one input. -/
def namesWrong : ChangeSpec := { name := "names", fn := fun _ => fun
  | [] => { results := [.lit (.bool false)], args := [] }
  | _ => none }
def NamesWrongFalsely : Prop := namesRow.holds Try.pinned (OpenSpec.ofChange namesWrong)

/-- 'daylaw5.GroupChains': WHATEVER THE INPUT: true; the input reads as it did. -/
def groupChainsSpec : ChangeSpec := { name := "groupChains", fn := fun _ => fun
  | [d1, d2, d3] => { results := [.lit (.bool true)], args := [d1, d2, d3] }
  | _ => none }
def groupChainsRow : OpenClaim := { program := "ytbhndnjlplibmaa", sum := "26939292e1c44c9d979c8df5b4fe3839e5cc02130305abd0d1021d0a7be7d5bf", func := "quarterday/daylaw5.GroupChains", spec := "groupChains", unfollowed := true, recurses := true, plainKeys := false, apart := false }
def GroupChainsSaid : Prop := groupChainsRow.holds Try.pinned (OpenSpec.ofChange groupChainsSpec)

/-- ITS FALSE NEIGHBOUR: 'it returns false'. Refute it at one input. -/
def groupChainsWrong : ChangeSpec := { name := "groupChains", fn := fun _ => fun
  | [d1, d2, d3] => { results := [.lit (.bool false)], args := [d1, d2, d3] }
  | _ => none }
def GroupChainsWrongFalsely : Prop := groupChainsRow.holds Try.pinned (OpenSpec.ofChange groupChainsWrong)

/-- 'daylaw5.MoneyTurns': WHATEVER THE INPUT: true; the input reads as it did. -/
def moneyTurnsSpec : ChangeSpec := { name := "moneyTurns", fn := fun _ => fun
  | [d1, d2] => { results := [.lit (.bool true)], args := [d1, d2] }
  | _ => none }
def moneyTurnsRow : OpenClaim := { program := "ytbhndnjlplibmaa", sum := "26939292e1c44c9d979c8df5b4fe3839e5cc02130305abd0d1021d0a7be7d5bf", func := "quarterday/daylaw5.MoneyTurns", spec := "moneyTurns", inPlace := ["math/big.addVV", "math/bits.Add64", "math/big.subVV", "math/bits.Sub64"], recurses := true, plainKeys := false, apart := false }
def MoneyTurnsSaid : Prop := moneyTurnsRow.holds Try.pinned (OpenSpec.ofChange moneyTurnsSpec)

/-- ITS FALSE NEIGHBOUR: 'it returns false'. Refute it at one input. -/
def moneyTurnsWrong : ChangeSpec := { name := "moneyTurns", fn := fun _ => fun
  | [d1, d2] => { results := [.lit (.bool false)], args := [d1, d2] }
  | _ => none }
def MoneyTurnsWrongFalsely : Prop := moneyTurnsRow.holds Try.pinned (OpenSpec.ofChange moneyTurnsWrong)

/-- 'daylaw3.LedgerOrder': WHATEVER THE INPUT: true; the input reads as it did. -/
def ledgerOrderSpec : ChangeSpec := { name := "ledgerOrder", fn := fun _ => fun
  | [d1, d2, d3] => { results := [.lit (.bool true)], args := [d1, d2, d3] }
  | _ => none }
def ledgerOrderRow : OpenClaim := { program := "ytbhndnjlplibmaa", sum := "26939292e1c44c9d979c8df5b4fe3839e5cc02130305abd0d1021d0a7be7d5bf", func := "quarterday/daylaw3.LedgerOrder", spec := "ledgerOrder", unfollowed := true, recurses := true, plainKeys := false, apart := false }
def LedgerOrderSaid : Prop := ledgerOrderRow.holds Try.pinned (OpenSpec.ofChange ledgerOrderSpec)

/-- ITS FALSE NEIGHBOUR: 'it returns false'. Refute it at one input. -/
def ledgerOrderWrong : ChangeSpec := { name := "ledgerOrder", fn := fun _ => fun
  | [d1, d2, d3] => { results := [.lit (.bool false)], args := [d1, d2, d3] }
  | _ => none }
def LedgerOrderWrongFalsely : Prop := ledgerOrderRow.holds Try.pinned (OpenSpec.ofChange ledgerOrderWrong)

/-- 'daylaw5.LedgerParts': WHATEVER THE INPUT: true; the input reads as it did. -/
def ledgerPartsSpec : ChangeSpec := { name := "ledgerParts", fn := fun _ => fun
  | [d] => { results := [.lit (.bool true)], args := [d] }
  | _ => none }
def ledgerPartsRow : OpenClaim := { program := "ytbhndnjlplibmaa", sum := "26939292e1c44c9d979c8df5b4fe3839e5cc02130305abd0d1021d0a7be7d5bf", func := "quarterday/daylaw5.LedgerParts", spec := "ledgerParts", unfollowed := true, recurses := true, plainKeys := false, apart := false }
def LedgerPartsSaid : Prop := ledgerPartsRow.holds Try.pinned (OpenSpec.ofChange ledgerPartsSpec)

/-- ITS FALSE NEIGHBOUR: 'it returns false'. Refute it at one input. -/
def ledgerPartsWrong : ChangeSpec := { name := "ledgerParts", fn := fun _ => fun
  | [d] => { results := [.lit (.bool false)], args := [d] }
  | _ => none }
def LedgerPartsWrongFalsely : Prop := ledgerPartsRow.holds Try.pinned (OpenSpec.ofChange ledgerPartsWrong)

/-- 'daylaw3.LedgerEven': WHATEVER THE INPUT: true; the input reads as it did. -/
def ledgerEvenSpec : ChangeSpec := { name := "ledgerEven", fn := fun _ => fun
  | [d1, d2, d3, d4, d5] => { results := [.lit (.bool true)], args := [d1, d2, d3, d4, d5] }
  | _ => none }
def ledgerEvenRow : OpenClaim := { program := "ytbhndnjlplibmaa", sum := "26939292e1c44c9d979c8df5b4fe3839e5cc02130305abd0d1021d0a7be7d5bf", func := "quarterday/daylaw3.LedgerEven", spec := "ledgerEven", unfollowed := true, recurses := true, plainKeys := false, apart := false }
def LedgerEvenSaid : Prop := ledgerEvenRow.holds Try.pinned (OpenSpec.ofChange ledgerEvenSpec)

/-- ITS FALSE NEIGHBOUR: 'it returns false'. Refute it at one input. -/
def ledgerEvenWrong : ChangeSpec := { name := "ledgerEven", fn := fun _ => fun
  | [d1, d2, d3, d4, d5] => { results := [.lit (.bool false)], args := [d1, d2, d3, d4, d5] }
  | _ => none }
def LedgerEvenWrongFalsely : Prop := ledgerEvenRow.holds Try.pinned (OpenSpec.ofChange ledgerEvenWrong)

/- THE SECOND FORM. 'bulk': how many values and letters a reading holds, each counted each time it is reached (what is shared counts as often as it is met; a slice's spare places count too). A statement '..UptoSaid' is the law's where the arguments, and the package variables that the reading takes, are together of bulk at most 1048576: NARROWER than '..Said'. Prove '..Said' where nothing that the law and all that it calls make is longer than what came in: it says more and counts as full. Else prove '..UptoSaid'. A law counts once. -/
mutual
def uptoBulk {H : Type} : DataW H → Nat
  | .lit (.string bytes) => bytes.length + 1
  | .lit _ => 1
  | .nil => 1
  | .ptr d => uptoBulk d + 1
  | .slice elems spare => uptoBulkAll elems + uptoBulkAll spare + 1
  | .agg parts => uptoBulkAll parts + 1
  | .iface _ d => uptoBulk d + 1
  | .map entries => uptoBulkEntries entries + 1
  | .held _ => 1
def uptoBulkAll {H : Type} : List (DataW H) → Nat
  | [] => 0
  | d :: r => uptoBulk d + uptoBulkAll r
def uptoBulkEntries {H : Type} : List (Lit × DataW H) → Nat
  | [] => 0
  | x :: r => uptoBulkEntry x + uptoBulkEntries r
def uptoBulkEntry {H : Type} : Lit × DataW H → Nat
  | (.string bytes, d) => bytes.length + uptoBulk d + 1
  | (_, d) => uptoBulk d + 1
 end
def uptoSmall : (H : Type) → List (DataW H) → Bool := fun _ ds => decide (uptoBulkAll ds ≤ 1048576)
def OpenSpec.upto (s : _root_.Go.ChangeSpec) : _root_.Go.OpenSpec := { _root_.Go.OpenSpec.ofChange s with cond := some uptoSmall }

/-- 'daylaw1.Names', WHERE WHAT IT READS IS OF BULK AT MOST 1048576: true; the input reads as it did. -/
def namesUptoRow : OpenClaim := { program := "ytbhndnjlplibmaa", sum := "26939292e1c44c9d979c8df5b4fe3839e5cc02130305abd0d1021d0a7be7d5bf", func := "quarterday/daylaw1.Names", spec := "names", plainKeys := false, apart := false, narrowed := true }
def NamesUptoSaid : Prop := namesUptoRow.holds Try.pinned (OpenSpec.upto namesSpec)

/-- 'daylaw5.GroupChains', WHERE WHAT IT READS IS OF BULK AT MOST 1048576: true; the input reads as it did. -/
def groupChainsUptoRow : OpenClaim := { program := "ytbhndnjlplibmaa", sum := "26939292e1c44c9d979c8df5b4fe3839e5cc02130305abd0d1021d0a7be7d5bf", func := "quarterday/daylaw5.GroupChains", spec := "groupChains", unfollowed := true, recurses := true, plainKeys := false, apart := false, narrowed := true }
def GroupChainsUptoSaid : Prop := groupChainsUptoRow.holds Try.pinned (OpenSpec.upto groupChainsSpec)

/-- 'daylaw5.MoneyTurns', WHERE WHAT IT READS IS OF BULK AT MOST 1048576: true; the input reads as it did. -/
def moneyTurnsUptoRow : OpenClaim := { program := "ytbhndnjlplibmaa", sum := "26939292e1c44c9d979c8df5b4fe3839e5cc02130305abd0d1021d0a7be7d5bf", func := "quarterday/daylaw5.MoneyTurns", spec := "moneyTurns", inPlace := ["math/big.addVV", "math/bits.Add64", "math/big.subVV", "math/bits.Sub64"], recurses := true, plainKeys := false, apart := false, narrowed := true }
def MoneyTurnsUptoSaid : Prop := moneyTurnsUptoRow.holds Try.pinned (OpenSpec.upto moneyTurnsSpec)

/-- 'daylaw3.LedgerOrder', WHERE WHAT IT READS IS OF BULK AT MOST 1048576: true; the input reads as it did. -/
def ledgerOrderUptoRow : OpenClaim := { program := "ytbhndnjlplibmaa", sum := "26939292e1c44c9d979c8df5b4fe3839e5cc02130305abd0d1021d0a7be7d5bf", func := "quarterday/daylaw3.LedgerOrder", spec := "ledgerOrder", unfollowed := true, recurses := true, plainKeys := false, apart := false, narrowed := true }
def LedgerOrderUptoSaid : Prop := ledgerOrderUptoRow.holds Try.pinned (OpenSpec.upto ledgerOrderSpec)

/-- 'daylaw5.LedgerParts', WHERE WHAT IT READS IS OF BULK AT MOST 1048576: true; the input reads as it did. -/
def ledgerPartsUptoRow : OpenClaim := { program := "ytbhndnjlplibmaa", sum := "26939292e1c44c9d979c8df5b4fe3839e5cc02130305abd0d1021d0a7be7d5bf", func := "quarterday/daylaw5.LedgerParts", spec := "ledgerParts", unfollowed := true, recurses := true, plainKeys := false, apart := false, narrowed := true }
def LedgerPartsUptoSaid : Prop := ledgerPartsUptoRow.holds Try.pinned (OpenSpec.upto ledgerPartsSpec)

/-- 'daylaw3.LedgerEven', WHERE WHAT IT READS IS OF BULK AT MOST 1048576: true; the input reads as it did. -/
def ledgerEvenUptoRow : OpenClaim := { program := "ytbhndnjlplibmaa", sum := "26939292e1c44c9d979c8df5b4fe3839e5cc02130305abd0d1021d0a7be7d5bf", func := "quarterday/daylaw3.LedgerEven", spec := "ledgerEven", unfollowed := true, recurses := true, plainKeys := false, apart := false, narrowed := true }
def LedgerEvenUptoSaid : Prop := ledgerEvenUptoRow.holds Try.pinned (OpenSpec.upto ledgerEvenSpec)

end Rows
end Go.Proofs.Ytbhndnjlplibmaa
