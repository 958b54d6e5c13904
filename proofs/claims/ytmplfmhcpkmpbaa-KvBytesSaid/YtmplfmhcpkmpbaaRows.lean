/-
  No cell of these rows narrows 'for every input' (looked for: loops, veiled, ifaces, maps, wideKeys, modest, calm, conditions, laid).
  DERIVED. THE GIVEN ROWS OF THIS SEAT. 10 by the template 'for every input the law returns true; each argument reads behind the call as it read before'; 0 by the template 'total and deterministic' (their statements: YtmplfmhcpkmpbaaTotals.lean).
  GIVEN WITH THE SEED: the statements are not yours to turn. If you find one false, say at which input.
  Laid BY PROGRAM, IN A SANDBOX (cutbox-rows.mjs): the forced cells as the released guide's own fill.sh prints them over the translation 9ec3eabd00f1c813… (all of the seat's roots in one cut). By AI agents, Wed Nov 11 2026. No macro, syntax, notation, axiom, sorry.
-/
import Derived.Test.YtmplfmhcpkmpbaaChecked
import GoSem.Claim
import GoSem.ClaimJoined
import GoSem.ClaimMapViews
import Derived.JoinedTies
import Derived.KernelRfl
namespace Go.Proofs.Ytmplfmhcpkmpbaa
/- THE CELL 'sum', in the pinned program and in every row, IS THE sha256 OF THE DUMP (.gsa) THAT YtmplfmhcpkmpbaaProg.lean LOADS. Nothing in Lean hashes anything: it is a label: what it is worth is what the hold of that sum in a sandbox is worth. -/
noncomputable def Try.pinned : Pinned := { name := "ytmplfmhcpkmpbaa", sum := "9ec3eabd00f1c813ed9848ed9d18f76b7930c908e5022ebe1c9177ebd75b054f", checked := Try.checked }
namespace Rows
def none {H : Type} : Left H := { results := [], args := [] }

/-- 'tidemarklaw09.KvChecks': WHATEVER THE INPUT: true; the input reads as it did. -/
def kvChecksSpec : ChangeSpec := { name := "kvChecks", fn := fun _ => fun
  | [d1, d2] => { results := [.lit (.bool true)], args := [d1, d2] }
  | _ => none }
def kvChecksRow : OpenClaim := { program := "ytmplfmhcpkmpbaa", sum := "9ec3eabd00f1c813ed9848ed9d18f76b7930c908e5022ebe1c9177ebd75b054f", func := "tidemark/tidemarklaw09.KvChecks", spec := "kvChecks", unfollowed := true, recurses := true, apart := false }
def KvChecksSaid : Prop := kvChecksRow.holds Try.pinned (OpenSpec.ofChange kvChecksSpec)

/-- ITS FALSE NEIGHBOUR: 'it returns false'. Refute it at one input. -/
def kvChecksWrong : ChangeSpec := { name := "kvChecks", fn := fun _ => fun
  | [d1, d2] => { results := [.lit (.bool false)], args := [d1, d2] }
  | _ => none }
def KvChecksWrongFalsely : Prop := kvChecksRow.holds Try.pinned (OpenSpec.ofChange kvChecksWrong)

/-- 'tidemarklaw09.KvTold': WHATEVER THE INPUT: true; the input reads as it did. -/
def kvToldSpec : ChangeSpec := { name := "kvTold", fn := fun _ => fun
  | [d] => { results := [.lit (.bool true)], args := [d] }
  | _ => none }
def kvToldRow : OpenClaim := { program := "ytmplfmhcpkmpbaa", sum := "9ec3eabd00f1c813ed9848ed9d18f76b7930c908e5022ebe1c9177ebd75b054f", func := "tidemark/tidemarklaw09.KvTold", spec := "kvTold", unfollowed := true, recurses := true, apart := false }
def KvToldSaid : Prop := kvToldRow.holds Try.pinned (OpenSpec.ofChange kvToldSpec)

/-- ITS FALSE NEIGHBOUR: 'it returns false'. Refute it at one input. -/
def kvToldWrong : ChangeSpec := { name := "kvTold", fn := fun _ => fun
  | [d] => { results := [.lit (.bool false)], args := [d] }
  | _ => none }
def KvToldWrongFalsely : Prop := kvToldRow.holds Try.pinned (OpenSpec.ofChange kvToldWrong)

/-- 'tidemarklaw09.KvEvents': WHATEVER THE INPUT: true; the input reads as it did. -/
def kvEventsSpec : ChangeSpec := { name := "kvEvents", fn := fun _ => fun
  | [d1, d2] => { results := [.lit (.bool true)], args := [d1, d2] }
  | _ => none }
def kvEventsRow : OpenClaim := { program := "ytmplfmhcpkmpbaa", sum := "9ec3eabd00f1c813ed9848ed9d18f76b7930c908e5022ebe1c9177ebd75b054f", func := "tidemark/tidemarklaw09.KvEvents", spec := "kvEvents", unfollowed := true, recurses := true, apart := false }
def KvEventsSaid : Prop := kvEventsRow.holds Try.pinned (OpenSpec.ofChange kvEventsSpec)

/-- ITS FALSE NEIGHBOUR: 'it returns false'. Refute it at one input. -/
def kvEventsWrong : ChangeSpec := { name := "kvEvents", fn := fun _ => fun
  | [d1, d2] => { results := [.lit (.bool false)], args := [d1, d2] }
  | _ => none }
def KvEventsWrongFalsely : Prop := kvEventsRow.holds Try.pinned (OpenSpec.ofChange kvEventsWrong)

/-- 'tidemarklaw09.KvTwins': WHATEVER THE INPUT: true; the input reads as it did. -/
def kvTwinsSpec : ChangeSpec := { name := "kvTwins", fn := fun _ => fun
  | [d1, d2, d3] => { results := [.lit (.bool true)], args := [d1, d2, d3] }
  | _ => none }
def kvTwinsRow : OpenClaim := { program := "ytmplfmhcpkmpbaa", sum := "9ec3eabd00f1c813ed9848ed9d18f76b7930c908e5022ebe1c9177ebd75b054f", func := "tidemark/tidemarklaw09.KvTwins", spec := "kvTwins", unfollowed := true, recurses := true, apart := false }
def KvTwinsSaid : Prop := kvTwinsRow.holds Try.pinned (OpenSpec.ofChange kvTwinsSpec)

/-- ITS FALSE NEIGHBOUR: 'it returns false'. Refute it at one input. -/
def kvTwinsWrong : ChangeSpec := { name := "kvTwins", fn := fun _ => fun
  | [d1, d2, d3] => { results := [.lit (.bool false)], args := [d1, d2, d3] }
  | _ => none }
def KvTwinsWrongFalsely : Prop := kvTwinsRow.holds Try.pinned (OpenSpec.ofChange kvTwinsWrong)

/-- 'tidemarklaw09.KvOrder': WHATEVER THE INPUT: true; the input reads as it did. -/
def kvOrderSpec : ChangeSpec := { name := "kvOrder", fn := fun _ => fun
  | [d1, d2, d3] => { results := [.lit (.bool true)], args := [d1, d2, d3] }
  | _ => none }
def kvOrderRow : OpenClaim := { program := "ytmplfmhcpkmpbaa", sum := "9ec3eabd00f1c813ed9848ed9d18f76b7930c908e5022ebe1c9177ebd75b054f", func := "tidemark/tidemarklaw09.KvOrder", spec := "kvOrder", unfollowed := true, recurses := true, apart := false }
def KvOrderSaid : Prop := kvOrderRow.holds Try.pinned (OpenSpec.ofChange kvOrderSpec)

/-- ITS FALSE NEIGHBOUR: 'it returns false'. Refute it at one input. -/
def kvOrderWrong : ChangeSpec := { name := "kvOrder", fn := fun _ => fun
  | [d1, d2, d3] => { results := [.lit (.bool false)], args := [d1, d2, d3] }
  | _ => none }
def KvOrderWrongFalsely : Prop := kvOrderRow.holds Try.pinned (OpenSpec.ofChange kvOrderWrong)

/-- 'tidemarklaw09.KvRefused': WHATEVER THE INPUT: true; the input reads as it did. -/
def kvRefusedSpec : ChangeSpec := { name := "kvRefused", fn := fun _ => fun
  | [d1, d2] => { results := [.lit (.bool true)], args := [d1, d2] }
  | _ => none }
def kvRefusedRow : OpenClaim := { program := "ytmplfmhcpkmpbaa", sum := "9ec3eabd00f1c813ed9848ed9d18f76b7930c908e5022ebe1c9177ebd75b054f", func := "tidemark/tidemarklaw09.KvRefused", spec := "kvRefused", unfollowed := true, recurses := true, apart := false }
def KvRefusedSaid : Prop := kvRefusedRow.holds Try.pinned (OpenSpec.ofChange kvRefusedSpec)

/-- ITS FALSE NEIGHBOUR: 'it returns false'. Refute it at one input. -/
def kvRefusedWrong : ChangeSpec := { name := "kvRefused", fn := fun _ => fun
  | [d1, d2] => { results := [.lit (.bool false)], args := [d1, d2] }
  | _ => none }
def KvRefusedWrongFalsely : Prop := kvRefusedRow.holds Try.pinned (OpenSpec.ofChange kvRefusedWrong)

/-- 'tidemarklaw09.KvNobody': WHATEVER THE INPUT: true; the input reads as it did. -/
def kvNobodySpec : ChangeSpec := { name := "kvNobody", fn := fun _ => fun
  | [d] => { results := [.lit (.bool true)], args := [d] }
  | _ => none }
def kvNobodyRow : OpenClaim := { program := "ytmplfmhcpkmpbaa", sum := "9ec3eabd00f1c813ed9848ed9d18f76b7930c908e5022ebe1c9177ebd75b054f", func := "tidemark/tidemarklaw09.KvNobody", spec := "kvNobody", unfollowed := true, recurses := true, apart := false }
def KvNobodySaid : Prop := kvNobodyRow.holds Try.pinned (OpenSpec.ofChange kvNobodySpec)

/-- ITS FALSE NEIGHBOUR: 'it returns false'. Refute it at one input. -/
def kvNobodyWrong : ChangeSpec := { name := "kvNobody", fn := fun _ => fun
  | [d] => { results := [.lit (.bool false)], args := [d] }
  | _ => none }
def KvNobodyWrongFalsely : Prop := kvNobodyRow.holds Try.pinned (OpenSpec.ofChange kvNobodyWrong)

/-- 'tidemarklaw09.KvScans': WHATEVER THE INPUT: true; the input reads as it did. -/
def kvScansSpec : ChangeSpec := { name := "kvScans", fn := fun _ => fun
  | [d1, d2, d3, d4] => { results := [.lit (.bool true)], args := [d1, d2, d3, d4] }
  | _ => none }
def kvScansRow : OpenClaim := { program := "ytmplfmhcpkmpbaa", sum := "9ec3eabd00f1c813ed9848ed9d18f76b7930c908e5022ebe1c9177ebd75b054f", func := "tidemark/tidemarklaw09.KvScans", spec := "kvScans", unfollowed := true, recurses := true, apart := false }
def KvScansSaid : Prop := kvScansRow.holds Try.pinned (OpenSpec.ofChange kvScansSpec)

/-- ITS FALSE NEIGHBOUR: 'it returns false'. Refute it at one input. -/
def kvScansWrong : ChangeSpec := { name := "kvScans", fn := fun _ => fun
  | [d1, d2, d3, d4] => { results := [.lit (.bool false)], args := [d1, d2, d3, d4] }
  | _ => none }
def KvScansWrongFalsely : Prop := kvScansRow.holds Try.pinned (OpenSpec.ofChange kvScansWrong)

/-- 'tidemarklaw09.KvPlays': WHATEVER THE INPUT: true; the input reads as it did. -/
def kvPlaysSpec : ChangeSpec := { name := "kvPlays", fn := fun _ => fun
  | [d] => { results := [.lit (.bool true)], args := [d] }
  | _ => none }
def kvPlaysRow : OpenClaim := { program := "ytmplfmhcpkmpbaa", sum := "9ec3eabd00f1c813ed9848ed9d18f76b7930c908e5022ebe1c9177ebd75b054f", func := "tidemark/tidemarklaw09.KvPlays", spec := "kvPlays", unfollowed := true, recurses := true, apart := false }
def KvPlaysSaid : Prop := kvPlaysRow.holds Try.pinned (OpenSpec.ofChange kvPlaysSpec)

/-- ITS FALSE NEIGHBOUR: 'it returns false'. Refute it at one input. -/
def kvPlaysWrong : ChangeSpec := { name := "kvPlays", fn := fun _ => fun
  | [d] => { results := [.lit (.bool false)], args := [d] }
  | _ => none }
def KvPlaysWrongFalsely : Prop := kvPlaysRow.holds Try.pinned (OpenSpec.ofChange kvPlaysWrong)

/-- 'tidemarklaw09.KvBytes': WHATEVER THE INPUT: true; the input reads as it did. -/
def kvBytesSpec : ChangeSpec := { name := "kvBytes", fn := fun _ => fun
  | [d1, d2, d3] => { results := [.lit (.bool true)], args := [d1, d2, d3] }
  | _ => none }
def kvBytesRow : OpenClaim := { program := "ytmplfmhcpkmpbaa", sum := "9ec3eabd00f1c813ed9848ed9d18f76b7930c908e5022ebe1c9177ebd75b054f", func := "tidemark/tidemarklaw09.KvBytes", spec := "kvBytes", unfollowed := true, recurses := true, apart := false }
def KvBytesSaid : Prop := kvBytesRow.holds Try.pinned (OpenSpec.ofChange kvBytesSpec)

/-- ITS FALSE NEIGHBOUR: 'it returns false'. Refute it at one input. -/
def kvBytesWrong : ChangeSpec := { name := "kvBytes", fn := fun _ => fun
  | [d1, d2, d3] => { results := [.lit (.bool false)], args := [d1, d2, d3] }
  | _ => none }
def KvBytesWrongFalsely : Prop := kvBytesRow.holds Try.pinned (OpenSpec.ofChange kvBytesWrong)

/- THE SECOND FORM. 'bulk': how many values and letters a reading holds, each counted each time it is reached (what is shared counts as often as it is met; a slice's spare places count too). A statement '..UptoSaid' is the law's where the arguments, and the package variables that the reading takes, are together of bulk at most 1048576: NARROWER than '..Said'. Prove '..Said' where nothing that the law and all that it calls make is longer than what came in: it says more and counts as full. Else prove '..UptoSaid'. A law counts once. -/
mutual
def uptoBulk {H : Type} : DataW H → Nat
  | .lit (.string bytes) => bytes.length + 1
  | .lit _ => 1
  | .nil => 1
  | .ptr d => uptoBulk d + 1
  | .slice elems spare => uptoBulkAll elems + uptoBulkAll spare + 1
  | .agg parts => uptoBulkAll parts + 1
  | .iface _ d => uptoBulk d + 1
  | .map entries => uptoBulkEntries entries + 1
  | .held _ => 1
def uptoBulkAll {H : Type} : List (DataW H) → Nat
  | [] => 0
  | d :: r => uptoBulk d + uptoBulkAll r
def uptoBulkEntries {H : Type} : List (Lit × DataW H) → Nat
  | [] => 0
  | x :: r => uptoBulkEntry x + uptoBulkEntries r
def uptoBulkEntry {H : Type} : Lit × DataW H → Nat
  | (.string bytes, d) => bytes.length + uptoBulk d + 1
  | (_, d) => uptoBulk d + 1
 end
def uptoSmall : (H : Type) → List (DataW H) → Bool := fun _ ds => decide (uptoBulkAll ds ≤ 1048576)
def OpenSpec.upto (s : _root_.Go.ChangeSpec) : _root_.Go.OpenSpec := { _root_.Go.OpenSpec.ofChange s with cond := some uptoSmall }

/-- 'tidemarklaw09.KvChecks', WHERE WHAT IT READS IS OF BULK AT MOST 1048576: true; the input reads as it did. -/
def kvChecksUptoRow : OpenClaim := { program := "ytmplfmhcpkmpbaa", sum := "9ec3eabd00f1c813ed9848ed9d18f76b7930c908e5022ebe1c9177ebd75b054f", func := "tidemark/tidemarklaw09.KvChecks", spec := "kvChecks", unfollowed := true, recurses := true, apart := false, narrowed := true }
def KvChecksUptoSaid : Prop := kvChecksUptoRow.holds Try.pinned (OpenSpec.upto kvChecksSpec)

/-- 'tidemarklaw09.KvTold', WHERE WHAT IT READS IS OF BULK AT MOST 1048576: true; the input reads as it did. -/
def kvToldUptoRow : OpenClaim := { program := "ytmplfmhcpkmpbaa", sum := "9ec3eabd00f1c813ed9848ed9d18f76b7930c908e5022ebe1c9177ebd75b054f", func := "tidemark/tidemarklaw09.KvTold", spec := "kvTold", unfollowed := true, recurses := true, apart := false, narrowed := true }
def KvToldUptoSaid : Prop := kvToldUptoRow.holds Try.pinned (OpenSpec.upto kvToldSpec)

/-- 'tidemarklaw09.KvEvents', WHERE WHAT IT READS IS OF BULK AT MOST 1048576: true; the input reads as it did. -/
def kvEventsUptoRow : OpenClaim := { program := "ytmplfmhcpkmpbaa", sum := "9ec3eabd00f1c813ed9848ed9d18f76b7930c908e5022ebe1c9177ebd75b054f", func := "tidemark/tidemarklaw09.KvEvents", spec := "kvEvents", unfollowed := true, recurses := true, apart := false, narrowed := true }
def KvEventsUptoSaid : Prop := kvEventsUptoRow.holds Try.pinned (OpenSpec.upto kvEventsSpec)

/-- 'tidemarklaw09.KvTwins', WHERE WHAT IT READS IS OF BULK AT MOST 1048576: true; the input reads as it did. -/
def kvTwinsUptoRow : OpenClaim := { program := "ytmplfmhcpkmpbaa", sum := "9ec3eabd00f1c813ed9848ed9d18f76b7930c908e5022ebe1c9177ebd75b054f", func := "tidemark/tidemarklaw09.KvTwins", spec := "kvTwins", unfollowed := true, recurses := true, apart := false, narrowed := true }
def KvTwinsUptoSaid : Prop := kvTwinsUptoRow.holds Try.pinned (OpenSpec.upto kvTwinsSpec)

/-- 'tidemarklaw09.KvOrder', WHERE WHAT IT READS IS OF BULK AT MOST 1048576: true; the input reads as it did. -/
def kvOrderUptoRow : OpenClaim := { program := "ytmplfmhcpkmpbaa", sum := "9ec3eabd00f1c813ed9848ed9d18f76b7930c908e5022ebe1c9177ebd75b054f", func := "tidemark/tidemarklaw09.KvOrder", spec := "kvOrder", unfollowed := true, recurses := true, apart := false, narrowed := true }
def KvOrderUptoSaid : Prop := kvOrderUptoRow.holds Try.pinned (OpenSpec.upto kvOrderSpec)

/-- 'tidemarklaw09.KvRefused', WHERE WHAT IT READS IS OF BULK AT MOST 1048576: true; the input reads as it did. -/
def kvRefusedUptoRow : OpenClaim := { program := "ytmplfmhcpkmpbaa", sum := "9ec3eabd00f1c813ed9848ed9d18f76b7930c908e5022ebe1c9177ebd75b054f", func := "tidemark/tidemarklaw09.KvRefused", spec := "kvRefused", unfollowed := true, recurses := true, apart := false, narrowed := true }
def KvRefusedUptoSaid : Prop := kvRefusedUptoRow.holds Try.pinned (OpenSpec.upto kvRefusedSpec)

/-- 'tidemarklaw09.KvNobody', WHERE WHAT IT READS IS OF BULK AT MOST 1048576: true; the input reads as it did. -/
def kvNobodyUptoRow : OpenClaim := { program := "ytmplfmhcpkmpbaa", sum := "9ec3eabd00f1c813ed9848ed9d18f76b7930c908e5022ebe1c9177ebd75b054f", func := "tidemark/tidemarklaw09.KvNobody", spec := "kvNobody", unfollowed := true, recurses := true, apart := false, narrowed := true }
def KvNobodyUptoSaid : Prop := kvNobodyUptoRow.holds Try.pinned (OpenSpec.upto kvNobodySpec)

/-- 'tidemarklaw09.KvScans', WHERE WHAT IT READS IS OF BULK AT MOST 1048576: true; the input reads as it did. -/
def kvScansUptoRow : OpenClaim := { program := "ytmplfmhcpkmpbaa", sum := "9ec3eabd00f1c813ed9848ed9d18f76b7930c908e5022ebe1c9177ebd75b054f", func := "tidemark/tidemarklaw09.KvScans", spec := "kvScans", unfollowed := true, recurses := true, apart := false, narrowed := true }
def KvScansUptoSaid : Prop := kvScansUptoRow.holds Try.pinned (OpenSpec.upto kvScansSpec)

/-- 'tidemarklaw09.KvPlays', WHERE WHAT IT READS IS OF BULK AT MOST 1048576: true; the input reads as it did. -/
def kvPlaysUptoRow : OpenClaim := { program := "ytmplfmhcpkmpbaa", sum := "9ec3eabd00f1c813ed9848ed9d18f76b7930c908e5022ebe1c9177ebd75b054f", func := "tidemark/tidemarklaw09.KvPlays", spec := "kvPlays", unfollowed := true, recurses := true, apart := false, narrowed := true }
def KvPlaysUptoSaid : Prop := kvPlaysUptoRow.holds Try.pinned (OpenSpec.upto kvPlaysSpec)

/-- 'tidemarklaw09.KvBytes', WHERE WHAT IT READS IS OF BULK AT MOST 1048576: true; the input reads as it did. -/
def kvBytesUptoRow : OpenClaim := { program := "ytmplfmhcpkmpbaa", sum := "9ec3eabd00f1c813ed9848ed9d18f76b7930c908e5022ebe1c9177ebd75b054f", func := "tidemark/tidemarklaw09.KvBytes", spec := "kvBytes", unfollowed := true, recurses := true, apart := false, narrowed := true }
def KvBytesUptoSaid : Prop := kvBytesUptoRow.holds Try.pinned (OpenSpec.upto kvBytesSpec)

end Rows
end Go.Proofs.Ytmplfmhcpkmpbaa
