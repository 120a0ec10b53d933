/-
  No cell of these rows narrows 'for every input' (looked for: loops, veiled, ifaces, maps, wideKeys, modest, calm, conditions, laid).
  DERIVED. THE GIVEN ROWS OF THIS SEAT. 3 by the template 'for every input the law returns true; each argument reads behind the call as it read before'; 0 by the template 'total and deterministic' (their statements: YtjmbedbapoofdaaTotals.lean).
  GIVEN WITH THE SEED: the statements are not yours to turn. If you find one false, say at which input.
  Laid BY PROGRAM, IN A SANDBOX (cutbox-rows.mjs): the forced cells as the released guide's own fill.sh prints them over the translation d9c2f0b57383c1ff… (all of the seat's roots in one cut). By AI agents, Wed Nov 11 2026. No macro, syntax, notation, axiom, sorry.
-/
import Derived.Test.YtjmbedbapoofdaaChecked
import GoSem.Claim
import GoSem.ClaimJoined
import GoSem.ClaimMapViews
import Derived.JoinedTies
import Derived.KernelRfl
namespace Go.Proofs.Ytjmbedbapoofdaa
/- THE CELL 'sum', in the pinned program and in every row, IS THE sha256 OF THE DUMP (.gsa) THAT YtjmbedbapoofdaaProg.lean LOADS. Nothing in Lean hashes anything: it is a label: what it is worth is what the hold of that sum in a sandbox is worth. -/
noncomputable def Try.pinned : Pinned := { name := "ytjmbedbapoofdaa", sum := "d9c2f0b57383c1ff35f9c8d3410eb98b6c88df5e008076723c880048648904f7", checked := Try.checked }
namespace Rows
def none {H : Type} : Left H := { results := [], args := [] }

/-- 'cartridgelaw18.ListingNames': WHATEVER THE INPUT: true; the input reads as it did. -/
def listingNamesSpec : ChangeSpec := { name := "listingNames", fn := fun _ => fun
  | [d] => { results := [.lit (.bool true)], args := [d] }
  | _ => none }
def listingNamesRow : OpenClaim := { program := "ytjmbedbapoofdaa", sum := "d9c2f0b57383c1ff35f9c8d3410eb98b6c88df5e008076723c880048648904f7", func := "cartridge/cartridgelaw18.ListingNames", spec := "listingNames", recurses := true, apart := false }
def ListingNamesSaid : Prop := listingNamesRow.holds Try.pinned (OpenSpec.ofChange listingNamesSpec)

/-- ITS FALSE NEIGHBOUR: 'it returns false'. Refute it at one input. -/
def listingNamesWrong : ChangeSpec := { name := "listingNames", fn := fun _ => fun
  | [d] => { results := [.lit (.bool false)], args := [d] }
  | _ => none }
def ListingNamesWrongFalsely : Prop := listingNamesRow.holds Try.pinned (OpenSpec.ofChange listingNamesWrong)

/-- 'cartridgelaw18.ListingTells': WHATEVER THE INPUT: true; the input reads as it did. -/
def listingTellsSpec : ChangeSpec := { name := "listingTells", fn := fun _ => fun
  | [d1, d2, d3] => { results := [.lit (.bool true)], args := [d1, d2, d3] }
  | _ => none }
def listingTellsRow : OpenClaim := { program := "ytjmbedbapoofdaa", sum := "d9c2f0b57383c1ff35f9c8d3410eb98b6c88df5e008076723c880048648904f7", func := "cartridge/cartridgelaw18.ListingTells", spec := "listingTells", unfollowed := true, recurses := true, apart := false }
def ListingTellsSaid : Prop := listingTellsRow.holds Try.pinned (OpenSpec.ofChange listingTellsSpec)

/-- ITS FALSE NEIGHBOUR: 'it returns false'. Refute it at one input. -/
def listingTellsWrong : ChangeSpec := { name := "listingTells", fn := fun _ => fun
  | [d1, d2, d3] => { results := [.lit (.bool false)], args := [d1, d2, d3] }
  | _ => none }
def ListingTellsWrongFalsely : Prop := listingTellsRow.holds Try.pinned (OpenSpec.ofChange listingTellsWrong)

/-- 'cartridgelaw18.ListingNext': WHATEVER THE INPUT: true; the input reads as it did. -/
def listingNextSpec : ChangeSpec := { name := "listingNext", fn := fun _ => fun
  | [d1, d2, d3] => { results := [.lit (.bool true)], args := [d1, d2, d3] }
  | _ => none }
def listingNextRow : OpenClaim := { program := "ytjmbedbapoofdaa", sum := "d9c2f0b57383c1ff35f9c8d3410eb98b6c88df5e008076723c880048648904f7", func := "cartridge/cartridgelaw18.ListingNext", spec := "listingNext", unfollowed := true, recurses := true, apart := false }
def ListingNextSaid : Prop := listingNextRow.holds Try.pinned (OpenSpec.ofChange listingNextSpec)

/-- ITS FALSE NEIGHBOUR: 'it returns false'. Refute it at one input. -/
def listingNextWrong : ChangeSpec := { name := "listingNext", fn := fun _ => fun
  | [d1, d2, d3] => { results := [.lit (.bool false)], args := [d1, d2, d3] }
  | _ => none }
def ListingNextWrongFalsely : Prop := listingNextRow.holds Try.pinned (OpenSpec.ofChange listingNextWrong)

/- THE SECOND FORM. 'bulk': how many values and letters a reading holds, each counted each time it is reached (what is shared counts as often as it is met; a slice's spare places count too). A statement '..UptoSaid' is the law's where the arguments, and the package variables that the reading takes, are together of bulk at most 1048576: NARROWER than '..Said'. Prove '..Said' where nothing that the law and all that it calls make is longer than what came in: it says more and counts as full. Else prove '..UptoSaid'. A law counts once. -/
mutual
def uptoBulk {H : Type} : DataW H → Nat
  | .lit (.string bytes) => bytes.length + 1
  | .lit _ => 1
  | .nil => 1
  | .ptr d => uptoBulk d + 1
  | .slice elems spare => uptoBulkAll elems + uptoBulkAll spare + 1
  | .agg parts => uptoBulkAll parts + 1
  | .iface _ d => uptoBulk d + 1
  | .map entries => uptoBulkEntries entries + 1
  | .held _ => 1
def uptoBulkAll {H : Type} : List (DataW H) → Nat
  | [] => 0
  | d :: r => uptoBulk d + uptoBulkAll r
def uptoBulkEntries {H : Type} : List (Lit × DataW H) → Nat
  | [] => 0
  | x :: r => uptoBulkEntry x + uptoBulkEntries r
def uptoBulkEntry {H : Type} : Lit × DataW H → Nat
  | (.string bytes, d) => bytes.length + uptoBulk d + 1
  | (_, d) => uptoBulk d + 1
 end
def uptoSmall : (H : Type) → List (DataW H) → Bool := fun _ ds => decide (uptoBulkAll ds ≤ 1048576)
def OpenSpec.upto (s : _root_.Go.ChangeSpec) : _root_.Go.OpenSpec := { _root_.Go.OpenSpec.ofChange s with cond := some uptoSmall }

/-- 'cartridgelaw18.ListingNames', WHERE WHAT IT READS IS OF BULK AT MOST 1048576: true; the input reads as it did. -/
def listingNamesUptoRow : OpenClaim := { program := "ytjmbedbapoofdaa", sum := "d9c2f0b57383c1ff35f9c8d3410eb98b6c88df5e008076723c880048648904f7", func := "cartridge/cartridgelaw18.ListingNames", spec := "listingNames", recurses := true, apart := false, narrowed := true }
def ListingNamesUptoSaid : Prop := listingNamesUptoRow.holds Try.pinned (OpenSpec.upto listingNamesSpec)

/-- 'cartridgelaw18.ListingTells', WHERE WHAT IT READS IS OF BULK AT MOST 1048576: true; the input reads as it did. -/
def listingTellsUptoRow : OpenClaim := { program := "ytjmbedbapoofdaa", sum := "d9c2f0b57383c1ff35f9c8d3410eb98b6c88df5e008076723c880048648904f7", func := "cartridge/cartridgelaw18.ListingTells", spec := "listingTells", unfollowed := true, recurses := true, apart := false, narrowed := true }
def ListingTellsUptoSaid : Prop := listingTellsUptoRow.holds Try.pinned (OpenSpec.upto listingTellsSpec)

/-- 'cartridgelaw18.ListingNext', WHERE WHAT IT READS IS OF BULK AT MOST 1048576: true; the input reads as it did. -/
def listingNextUptoRow : OpenClaim := { program := "ytjmbedbapoofdaa", sum := "d9c2f0b57383c1ff35f9c8d3410eb98b6c88df5e008076723c880048648904f7", func := "cartridge/cartridgelaw18.ListingNext", spec := "listingNext", unfollowed := true, recurses := true, apart := false, narrowed := true }
def ListingNextUptoSaid : Prop := listingNextUptoRow.holds Try.pinned (OpenSpec.upto listingNextSpec)

end Rows
end Go.Proofs.Ytjmbedbapoofdaa
