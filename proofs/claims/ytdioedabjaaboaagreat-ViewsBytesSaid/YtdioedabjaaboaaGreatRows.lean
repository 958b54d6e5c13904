/-
  No cell of these rows narrows 'for every input' (looked for: loops, veiled, ifaces, maps, wideKeys, modest, calm, conditions, laid).
  DERIVED. THE GIVEN ROWS OF THIS SEAT. 6 by the template 'for every input the law returns true; each argument reads behind the call as it read before'; 0 by the template 'total and deterministic' (their statements: YtdioedabjaaboaaGreatTotals.lean).
  GIVEN WITH THE SEED: the statements are not yours to turn. If you find one false, say at which input.
  Laid BY PROGRAM, IN A SANDBOX (cutbox-rows.mjs): the forced cells as the released guide's own fill.sh prints them over the translation fb8399fc0f60bd41… (all of the seat's roots in one cut). By AI agents, Wed Nov 11 2026. No macro, syntax, notation, axiom, sorry.
-/
import Derived.Test.YtdioedabjaaboaaGreatChecked
import GoSem.Claim
import GoSem.ClaimJoined
import GoSem.ClaimMapViews
import Derived.JoinedTies
import Derived.KernelRfl
namespace Go.Proofs.YtdioedabjaaboaaGreat
/- THE CELL 'sum', in the pinned program and in every row, IS THE sha256 OF THE DUMP (.gsa) THAT YtdioedabjaaboaaGreatProg.lean LOADS. Nothing in Lean hashes anything: it is a label: what it is worth is what the hold of that sum in a sandbox is worth. -/
noncomputable def Tryz.pinned : Pinned := { name := "ytdioedabjaaboaagreat", sum := "fb8399fc0f60bd41208aa6d2b9d3eb78336fa0199833438931cbcb0d4308644a", checked := Tryz.checked }
namespace Rows
def none {H : Type} : Left H := { results := [], args := [] }

/-- 'tidemarklaw11.ViewsSums': WHATEVER THE INPUT: true; the input reads as it did. -/
def viewsSumsSpec : ChangeSpec := { name := "viewsSums", fn := fun _ => fun
  | [d1, d2] => { results := [.lit (.bool true)], args := [d1, d2] }
  | _ => none }
def viewsSumsRow : OpenClaim := { program := "ytdioedabjaaboaagreat", sum := "fb8399fc0f60bd41208aa6d2b9d3eb78336fa0199833438931cbcb0d4308644a", func := "tidemark/tidemarklaw11.ViewsSums", spec := "viewsSums", inPlace := ["maps.clone"], unfollowed := true, recurses := true, apart := false }
def ViewsSumsSaid : Prop := viewsSumsRow.holds Tryz.pinned (OpenSpec.ofChange viewsSumsSpec)

/-- ITS FALSE NEIGHBOUR: 'it returns false'. Refute it at one input. -/
def viewsSumsWrong : ChangeSpec := { name := "viewsSums", fn := fun _ => fun
  | [d1, d2] => { results := [.lit (.bool false)], args := [d1, d2] }
  | _ => none }
def ViewsSumsWrongFalsely : Prop := viewsSumsRow.holds Tryz.pinned (OpenSpec.ofChange viewsSumsWrong)

/-- 'tidemarklaw11.ViewsOf': WHATEVER THE INPUT: true; the input reads as it did. -/
def viewsOfSpec : ChangeSpec := { name := "viewsOf", fn := fun _ => fun
  | [d1, d2] => { results := [.lit (.bool true)], args := [d1, d2] }
  | _ => none }
def viewsOfRow : OpenClaim := { program := "ytdioedabjaaboaagreat", sum := "fb8399fc0f60bd41208aa6d2b9d3eb78336fa0199833438931cbcb0d4308644a", func := "tidemark/tidemarklaw11.ViewsOf", spec := "viewsOf", inPlace := ["maps.clone"], unfollowed := true, recurses := true, apart := false }
def ViewsOfSaid : Prop := viewsOfRow.holds Tryz.pinned (OpenSpec.ofChange viewsOfSpec)

/-- ITS FALSE NEIGHBOUR: 'it returns false'. Refute it at one input. -/
def viewsOfWrong : ChangeSpec := { name := "viewsOf", fn := fun _ => fun
  | [d1, d2] => { results := [.lit (.bool false)], args := [d1, d2] }
  | _ => none }
def ViewsOfWrongFalsely : Prop := viewsOfRow.holds Tryz.pinned (OpenSpec.ofChange viewsOfWrong)

/-- 'tidemarklaw11.ViewsCounts': WHATEVER THE INPUT: true; the input reads as it did. -/
def viewsCountsSpec : ChangeSpec := { name := "viewsCounts", fn := fun _ => fun
  | [d1, d2] => { results := [.lit (.bool true)], args := [d1, d2] }
  | _ => none }
def viewsCountsRow : OpenClaim := { program := "ytdioedabjaaboaagreat", sum := "fb8399fc0f60bd41208aa6d2b9d3eb78336fa0199833438931cbcb0d4308644a", func := "tidemark/tidemarklaw11.ViewsCounts", spec := "viewsCounts", inPlace := ["maps.clone"], unfollowed := true, recurses := true, apart := false }
def ViewsCountsSaid : Prop := viewsCountsRow.holds Tryz.pinned (OpenSpec.ofChange viewsCountsSpec)

/-- ITS FALSE NEIGHBOUR: 'it returns false'. Refute it at one input. -/
def viewsCountsWrong : ChangeSpec := { name := "viewsCounts", fn := fun _ => fun
  | [d1, d2] => { results := [.lit (.bool false)], args := [d1, d2] }
  | _ => none }
def ViewsCountsWrongFalsely : Prop := viewsCountsRow.holds Tryz.pinned (OpenSpec.ofChange viewsCountsWrong)

/-- 'tidemarklaw11.ViewsOver': WHATEVER THE INPUT: true; the input reads as it did. -/
def viewsOverSpec : ChangeSpec := { name := "viewsOver", fn := fun _ => fun
  | [d1, d2] => { results := [.lit (.bool true)], args := [d1, d2] }
  | _ => none }
def viewsOverRow : OpenClaim := { program := "ytdioedabjaaboaagreat", sum := "fb8399fc0f60bd41208aa6d2b9d3eb78336fa0199833438931cbcb0d4308644a", func := "tidemark/tidemarklaw11.ViewsOver", spec := "viewsOver", inPlace := ["maps.clone"], unfollowed := true, recurses := true, apart := false }
def ViewsOverSaid : Prop := viewsOverRow.holds Tryz.pinned (OpenSpec.ofChange viewsOverSpec)

/-- ITS FALSE NEIGHBOUR: 'it returns false'. Refute it at one input. -/
def viewsOverWrong : ChangeSpec := { name := "viewsOver", fn := fun _ => fun
  | [d1, d2] => { results := [.lit (.bool false)], args := [d1, d2] }
  | _ => none }
def ViewsOverWrongFalsely : Prop := viewsOverRow.holds Tryz.pinned (OpenSpec.ofChange viewsOverWrong)

/-- 'tidemarklaw11.ViewsPlays': WHATEVER THE INPUT: true; the input reads as it did. -/
def viewsPlaysSpec : ChangeSpec := { name := "viewsPlays", fn := fun _ => fun
  | [d] => { results := [.lit (.bool true)], args := [d] }
  | _ => none }
def viewsPlaysRow : OpenClaim := { program := "ytdioedabjaaboaagreat", sum := "fb8399fc0f60bd41208aa6d2b9d3eb78336fa0199833438931cbcb0d4308644a", func := "tidemark/tidemarklaw11.ViewsPlays", spec := "viewsPlays", inPlace := ["maps.clone"], unfollowed := true, recurses := true, apart := false }
def ViewsPlaysSaid : Prop := viewsPlaysRow.holds Tryz.pinned (OpenSpec.ofChange viewsPlaysSpec)

/-- ITS FALSE NEIGHBOUR: 'it returns false'. Refute it at one input. -/
def viewsPlaysWrong : ChangeSpec := { name := "viewsPlays", fn := fun _ => fun
  | [d] => { results := [.lit (.bool false)], args := [d] }
  | _ => none }
def ViewsPlaysWrongFalsely : Prop := viewsPlaysRow.holds Tryz.pinned (OpenSpec.ofChange viewsPlaysWrong)

/-- 'tidemarklaw11.ViewsBytes': WHATEVER THE INPUT: true; the input reads as it did. -/
def viewsBytesSpec : ChangeSpec := { name := "viewsBytes", fn := fun _ => fun
  | [d1, d2] => { results := [.lit (.bool true)], args := [d1, d2] }
  | _ => none }
def viewsBytesRow : OpenClaim := { program := "ytdioedabjaaboaagreat", sum := "fb8399fc0f60bd41208aa6d2b9d3eb78336fa0199833438931cbcb0d4308644a", func := "tidemark/tidemarklaw11.ViewsBytes", spec := "viewsBytes", inPlace := ["maps.clone"], unfollowed := true, recurses := true, apart := false }
def ViewsBytesSaid : Prop := viewsBytesRow.holds Tryz.pinned (OpenSpec.ofChange viewsBytesSpec)

/-- ITS FALSE NEIGHBOUR: 'it returns false'. Refute it at one input. -/
def viewsBytesWrong : ChangeSpec := { name := "viewsBytes", fn := fun _ => fun
  | [d1, d2] => { results := [.lit (.bool false)], args := [d1, d2] }
  | _ => none }
def ViewsBytesWrongFalsely : Prop := viewsBytesRow.holds Tryz.pinned (OpenSpec.ofChange viewsBytesWrong)

/- THE SECOND FORM. 'bulk': how many values and letters a reading holds, each counted each time it is reached (what is shared counts as often as it is met; a slice's spare places count too). A statement '..UptoSaid' is the law's where the arguments, and the package variables that the reading takes, are together of bulk at most 1048576: NARROWER than '..Said'. Prove '..Said' where nothing that the law and all that it calls make is longer than what came in: it says more and counts as full. Else prove '..UptoSaid'. A law counts once. -/
mutual
def uptoBulk {H : Type} : DataW H → Nat
  | .lit (.string bytes) => bytes.length + 1
  | .lit _ => 1
  | .nil => 1
  | .ptr d => uptoBulk d + 1
  | .slice elems spare => uptoBulkAll elems + uptoBulkAll spare + 1
  | .agg parts => uptoBulkAll parts + 1
  | .iface _ d => uptoBulk d + 1
  | .map entries => uptoBulkEntries entries + 1
  | .held _ => 1
def uptoBulkAll {H : Type} : List (DataW H) → Nat
  | [] => 0
  | d :: r => uptoBulk d + uptoBulkAll r
def uptoBulkEntries {H : Type} : List (Lit × DataW H) → Nat
  | [] => 0
  | x :: r => uptoBulkEntry x + uptoBulkEntries r
def uptoBulkEntry {H : Type} : Lit × DataW H → Nat
  | (.string bytes, d) => bytes.length + uptoBulk d + 1
  | (_, d) => uptoBulk d + 1
 end
def uptoSmall : (H : Type) → List (DataW H) → Bool := fun _ ds => decide (uptoBulkAll ds ≤ 1048576)
def OpenSpec.upto (s : _root_.Go.ChangeSpec) : _root_.Go.OpenSpec := { _root_.Go.OpenSpec.ofChange s with cond := some uptoSmall }

/-- 'tidemarklaw11.ViewsSums', WHERE WHAT IT READS IS OF BULK AT MOST 1048576: true; the input reads as it did. -/
def viewsSumsUptoRow : OpenClaim := { program := "ytdioedabjaaboaagreat", sum := "fb8399fc0f60bd41208aa6d2b9d3eb78336fa0199833438931cbcb0d4308644a", func := "tidemark/tidemarklaw11.ViewsSums", spec := "viewsSums", inPlace := ["maps.clone"], unfollowed := true, recurses := true, apart := false, narrowed := true }
def ViewsSumsUptoSaid : Prop := viewsSumsUptoRow.holds Tryz.pinned (OpenSpec.upto viewsSumsSpec)

/-- 'tidemarklaw11.ViewsOf', WHERE WHAT IT READS IS OF BULK AT MOST 1048576: true; the input reads as it did. -/
def viewsOfUptoRow : OpenClaim := { program := "ytdioedabjaaboaagreat", sum := "fb8399fc0f60bd41208aa6d2b9d3eb78336fa0199833438931cbcb0d4308644a", func := "tidemark/tidemarklaw11.ViewsOf", spec := "viewsOf", inPlace := ["maps.clone"], unfollowed := true, recurses := true, apart := false, narrowed := true }
def ViewsOfUptoSaid : Prop := viewsOfUptoRow.holds Tryz.pinned (OpenSpec.upto viewsOfSpec)

/-- 'tidemarklaw11.ViewsCounts', WHERE WHAT IT READS IS OF BULK AT MOST 1048576: true; the input reads as it did. -/
def viewsCountsUptoRow : OpenClaim := { program := "ytdioedabjaaboaagreat", sum := "fb8399fc0f60bd41208aa6d2b9d3eb78336fa0199833438931cbcb0d4308644a", func := "tidemark/tidemarklaw11.ViewsCounts", spec := "viewsCounts", inPlace := ["maps.clone"], unfollowed := true, recurses := true, apart := false, narrowed := true }
def ViewsCountsUptoSaid : Prop := viewsCountsUptoRow.holds Tryz.pinned (OpenSpec.upto viewsCountsSpec)

/-- 'tidemarklaw11.ViewsOver', WHERE WHAT IT READS IS OF BULK AT MOST 1048576: true; the input reads as it did. -/
def viewsOverUptoRow : OpenClaim := { program := "ytdioedabjaaboaagreat", sum := "fb8399fc0f60bd41208aa6d2b9d3eb78336fa0199833438931cbcb0d4308644a", func := "tidemark/tidemarklaw11.ViewsOver", spec := "viewsOver", inPlace := ["maps.clone"], unfollowed := true, recurses := true, apart := false, narrowed := true }
def ViewsOverUptoSaid : Prop := viewsOverUptoRow.holds Tryz.pinned (OpenSpec.upto viewsOverSpec)

/-- 'tidemarklaw11.ViewsPlays', WHERE WHAT IT READS IS OF BULK AT MOST 1048576: true; the input reads as it did. -/
def viewsPlaysUptoRow : OpenClaim := { program := "ytdioedabjaaboaagreat", sum := "fb8399fc0f60bd41208aa6d2b9d3eb78336fa0199833438931cbcb0d4308644a", func := "tidemark/tidemarklaw11.ViewsPlays", spec := "viewsPlays", inPlace := ["maps.clone"], unfollowed := true, recurses := true, apart := false, narrowed := true }
def ViewsPlaysUptoSaid : Prop := viewsPlaysUptoRow.holds Tryz.pinned (OpenSpec.upto viewsPlaysSpec)

/-- 'tidemarklaw11.ViewsBytes', WHERE WHAT IT READS IS OF BULK AT MOST 1048576: true; the input reads as it did. -/
def viewsBytesUptoRow : OpenClaim := { program := "ytdioedabjaaboaagreat", sum := "fb8399fc0f60bd41208aa6d2b9d3eb78336fa0199833438931cbcb0d4308644a", func := "tidemark/tidemarklaw11.ViewsBytes", spec := "viewsBytes", inPlace := ["maps.clone"], unfollowed := true, recurses := true, apart := false, narrowed := true }
def ViewsBytesUptoSaid : Prop := viewsBytesUptoRow.holds Tryz.pinned (OpenSpec.upto viewsBytesSpec)

end Rows
end Go.Proofs.YtdioedabjaaboaaGreat
