/-
  No cell of these rows narrows 'for every input' (looked for: loops, veiled, ifaces, maps, wideKeys, modest, calm, conditions, laid).
  DERIVED. THE GIVEN ROWS OF THIS SEAT. 3 by the template 'for every input the law returns true; each argument reads behind the call as it read before'; 0 by the template 'total and deterministic' (their statements: YtdioedabjaaboaaTotals.lean).
  GIVEN WITH THE SEED: the statements are not yours to turn. If you find one false, say at which input.
  Laid BY PROGRAM, IN A SANDBOX (cutbox-rows.mjs): the forced cells as the released guide's own fill.sh prints them over the translation b99a4ba64beae4cc… (all of the seat's roots in one cut). By AI agents, Wed Nov 11 2026. No macro, syntax, notation, axiom, sorry.
-/
import Derived.Test.YtdioedabjaaboaaChecked
import GoSem.Claim
import GoSem.ClaimJoined
import GoSem.ClaimMapViews
import Derived.JoinedTies
import Derived.KernelRfl
namespace Go.Proofs.Ytdioedabjaaboaa
/- THE CELL 'sum', in the pinned program and in every row, IS THE sha256 OF THE DUMP (.gsa) THAT YtdioedabjaaboaaProg.lean LOADS. Nothing in Lean hashes anything: it is a label: what it is worth is what the hold of that sum in a sandbox is worth. -/
noncomputable def Try.pinned : Pinned := { name := "ytdioedabjaaboaa", sum := "b99a4ba64beae4cc94e173d9b7ce41148cc8202f494def91905e4a9ebd3abaa1", checked := Try.checked }
namespace Rows
def none {H : Type} : Left H := { results := [], args := [] }

/-- 'tidemarklaw11.ViewsKept': WHATEVER THE INPUT: true; the input reads as it did. -/
def viewsKeptSpec : ChangeSpec := { name := "viewsKept", fn := fun _ => fun
  | [d1, d2] => { results := [.lit (.bool true)], args := [d1, d2] }
  | _ => none }
def viewsKeptRow : OpenClaim := { program := "ytdioedabjaaboaa", sum := "b99a4ba64beae4cc94e173d9b7ce41148cc8202f494def91905e4a9ebd3abaa1", func := "tidemark/tidemarklaw11.ViewsKept", spec := "viewsKept", inPlace := ["maps.clone"], unfollowed := true, recurses := true, apart := false }
def ViewsKeptSaid : Prop := viewsKeptRow.holds Try.pinned (OpenSpec.ofChange viewsKeptSpec)

/-- ITS FALSE NEIGHBOUR: 'it returns false'. Refute it at one input. -/
def viewsKeptWrong : ChangeSpec := { name := "viewsKept", fn := fun _ => fun
  | [d1, d2] => { results := [.lit (.bool false)], args := [d1, d2] }
  | _ => none }
def ViewsKeptWrongFalsely : Prop := viewsKeptRow.holds Try.pinned (OpenSpec.ofChange viewsKeptWrong)

/-- 'tidemarklaw11.ViewsApart': WHATEVER THE INPUT: true; the input reads as it did. -/
def viewsApartSpec : ChangeSpec := { name := "viewsApart", fn := fun _ => fun
  | [d1, d2, d3] => { results := [.lit (.bool true)], args := [d1, d2, d3] }
  | _ => none }
def viewsApartRow : OpenClaim := { program := "ytdioedabjaaboaa", sum := "b99a4ba64beae4cc94e173d9b7ce41148cc8202f494def91905e4a9ebd3abaa1", func := "tidemark/tidemarklaw11.ViewsApart", spec := "viewsApart", inPlace := ["maps.clone"], unfollowed := true, recurses := true, apart := false }
def ViewsApartSaid : Prop := viewsApartRow.holds Try.pinned (OpenSpec.ofChange viewsApartSpec)

/-- ITS FALSE NEIGHBOUR: 'it returns false'. Refute it at one input. -/
def viewsApartWrong : ChangeSpec := { name := "viewsApart", fn := fun _ => fun
  | [d1, d2, d3] => { results := [.lit (.bool false)], args := [d1, d2, d3] }
  | _ => none }
def ViewsApartWrongFalsely : Prop := viewsApartRow.holds Try.pinned (OpenSpec.ofChange viewsApartWrong)

/-- 'tidemarklaw11.ViewsNobody': WHATEVER THE INPUT: true; the input reads as it did. -/
def viewsNobodySpec : ChangeSpec := { name := "viewsNobody", fn := fun _ => fun
  | [d] => { results := [.lit (.bool true)], args := [d] }
  | _ => none }
def viewsNobodyRow : OpenClaim := { program := "ytdioedabjaaboaa", sum := "b99a4ba64beae4cc94e173d9b7ce41148cc8202f494def91905e4a9ebd3abaa1", func := "tidemark/tidemarklaw11.ViewsNobody", spec := "viewsNobody", inPlace := ["maps.clone"], unfollowed := true, recurses := true, apart := false }
def ViewsNobodySaid : Prop := viewsNobodyRow.holds Try.pinned (OpenSpec.ofChange viewsNobodySpec)

/-- ITS FALSE NEIGHBOUR: 'it returns false'. Refute it at one input. -/
def viewsNobodyWrong : ChangeSpec := { name := "viewsNobody", fn := fun _ => fun
  | [d] => { results := [.lit (.bool false)], args := [d] }
  | _ => none }
def ViewsNobodyWrongFalsely : Prop := viewsNobodyRow.holds Try.pinned (OpenSpec.ofChange viewsNobodyWrong)

/- THE SECOND FORM. 'bulk': how many values and letters a reading holds, each counted each time it is reached (what is shared counts as often as it is met; a slice's spare places count too). A statement '..UptoSaid' is the law's where the arguments, and the package variables that the reading takes, are together of bulk at most 1048576: NARROWER than '..Said'. Prove '..Said' where nothing that the law and all that it calls make is longer than what came in: it says more and counts as full. Else prove '..UptoSaid'. A law counts once. -/
mutual
def uptoBulk {H : Type} : DataW H → Nat
  | .lit (.string bytes) => bytes.length + 1
  | .lit _ => 1
  | .nil => 1
  | .ptr d => uptoBulk d + 1
  | .slice elems spare => uptoBulkAll elems + uptoBulkAll spare + 1
  | .agg parts => uptoBulkAll parts + 1
  | .iface _ d => uptoBulk d + 1
  | .map entries => uptoBulkEntries entries + 1
  | .held _ => 1
def uptoBulkAll {H : Type} : List (DataW H) → Nat
  | [] => 0
  | d :: r => uptoBulk d + uptoBulkAll r
def uptoBulkEntries {H : Type} : List (Lit × DataW H) → Nat
  | [] => 0
  | x :: r => uptoBulkEntry x + uptoBulkEntries r
def uptoBulkEntry {H : Type} : Lit × DataW H → Nat
  | (.string bytes, d) => bytes.length + uptoBulk d + 1
  | (_, d) => uptoBulk d + 1
 end
def uptoSmall : (H : Type) → List (DataW H) → Bool := fun _ ds => decide (uptoBulkAll ds ≤ 1048576)
def OpenSpec.upto (s : _root_.Go.ChangeSpec) : _root_.Go.OpenSpec := { _root_.Go.OpenSpec.ofChange s with cond := some uptoSmall }

/-- 'tidemarklaw11.ViewsKept', WHERE WHAT IT READS IS OF BULK AT MOST 1048576: true; the input reads as it did. -/
def viewsKeptUptoRow : OpenClaim := { program := "ytdioedabjaaboaa", sum := "b99a4ba64beae4cc94e173d9b7ce41148cc8202f494def91905e4a9ebd3abaa1", func := "tidemark/tidemarklaw11.ViewsKept", spec := "viewsKept", inPlace := ["maps.clone"], unfollowed := true, recurses := true, apart := false, narrowed := true }
def ViewsKeptUptoSaid : Prop := viewsKeptUptoRow.holds Try.pinned (OpenSpec.upto viewsKeptSpec)

/-- 'tidemarklaw11.ViewsApart', WHERE WHAT IT READS IS OF BULK AT MOST 1048576: true; the input reads as it did. -/
def viewsApartUptoRow : OpenClaim := { program := "ytdioedabjaaboaa", sum := "b99a4ba64beae4cc94e173d9b7ce41148cc8202f494def91905e4a9ebd3abaa1", func := "tidemark/tidemarklaw11.ViewsApart", spec := "viewsApart", inPlace := ["maps.clone"], unfollowed := true, recurses := true, apart := false, narrowed := true }
def ViewsApartUptoSaid : Prop := viewsApartUptoRow.holds Try.pinned (OpenSpec.upto viewsApartSpec)

/-- 'tidemarklaw11.ViewsNobody', WHERE WHAT IT READS IS OF BULK AT MOST 1048576: true; the input reads as it did. -/
def viewsNobodyUptoRow : OpenClaim := { program := "ytdioedabjaaboaa", sum := "b99a4ba64beae4cc94e173d9b7ce41148cc8202f494def91905e4a9ebd3abaa1", func := "tidemark/tidemarklaw11.ViewsNobody", spec := "viewsNobody", inPlace := ["maps.clone"], unfollowed := true, recurses := true, apart := false, narrowed := true }
def ViewsNobodyUptoSaid : Prop := viewsNobodyUptoRow.holds Try.pinned (OpenSpec.upto viewsNobodySpec)

end Rows
end Go.Proofs.Ytdioedabjaaboaa
