/-
  No cell of these rows narrows 'for every input' (looked for: loops, veiled, ifaces, maps, wideKeys, modest, calm, conditions, laid).
  DERIVED. THE GIVEN ROWS OF THIS SEAT. 8 by the template 'for every input the law returns true; each argument reads behind the call as it read before'; 0 by the template 'total and deterministic' (their statements: YtjdfajibflodbaaTotals.lean).
  GIVEN WITH THE SEED: the statements are not yours to turn. If you find one false, say at which input.
  Laid BY PROGRAM, IN A SANDBOX (cutbox-rows.mjs): the forced cells as the released guide's own fill.sh prints them over the translation 924a017e88b96f1e… (all of the seat's roots in one cut). By AI agents, Wed Nov 11 2026. No macro, syntax, notation, axiom, sorry.
-/
import Derived.Test.YtjdfajibflodbaaChecked
import GoSem.Claim
import GoSem.ClaimJoined
import GoSem.ClaimMapViews
import Derived.JoinedTies
import Derived.KernelRfl
namespace Go.Proofs.Ytjdfajibflodbaa
/- THE CELL 'sum', in the pinned program and in every row, IS THE sha256 OF THE DUMP (.gsa) THAT YtjdfajibflodbaaProg.lean LOADS. Nothing in Lean hashes anything: it is a label: what it is worth is what the hold of that sum in a sandbox is worth. -/
noncomputable def Try.pinned : Pinned := { name := "ytjdfajibflodbaa", sum := "924a017e88b96f1ea665637007ec6fb4e97ca21d07243ebf24f04c238b894780", checked := Try.checked }
namespace Rows
def none {H : Type} : Left H := { results := [], args := [] }

/-- 'tidemarklaw18.RowsChecks': WHATEVER THE INPUT: true; the input reads as it did. -/
def rowsChecksSpec : ChangeSpec := { name := "rowsChecks", fn := fun _ => fun
  | [d] => { results := [.lit (.bool true)], args := [d] }
  | _ => none }
def rowsChecksRow : OpenClaim := { program := "ytjdfajibflodbaa", sum := "924a017e88b96f1ea665637007ec6fb4e97ca21d07243ebf24f04c238b894780", func := "tidemark/tidemarklaw18.RowsChecks", spec := "rowsChecks", apart := false }
def RowsChecksSaid : Prop := rowsChecksRow.holds Try.pinned (OpenSpec.ofChange rowsChecksSpec)

/-- ITS FALSE NEIGHBOUR: 'it returns false'. Refute it at one input. -/
def rowsChecksWrong : ChangeSpec := { name := "rowsChecks", fn := fun _ => fun
  | [d] => { results := [.lit (.bool false)], args := [d] }
  | _ => none }
def RowsChecksWrongFalsely : Prop := rowsChecksRow.holds Try.pinned (OpenSpec.ofChange rowsChecksWrong)

/-- 'tidemarklaw18.RowsJoins': WHATEVER THE INPUT: true; the input reads as it did. -/
def rowsJoinsSpec : ChangeSpec := { name := "rowsJoins", fn := fun _ => fun
  | [d1, d2, d3, d4] => { results := [.lit (.bool true)], args := [d1, d2, d3, d4] }
  | _ => none }
def rowsJoinsRow : OpenClaim := { program := "ytjdfajibflodbaa", sum := "924a017e88b96f1ea665637007ec6fb4e97ca21d07243ebf24f04c238b894780", func := "tidemark/tidemarklaw18.RowsJoins", spec := "rowsJoins", apart := false }
def RowsJoinsSaid : Prop := rowsJoinsRow.holds Try.pinned (OpenSpec.ofChange rowsJoinsSpec)

/-- ITS FALSE NEIGHBOUR: 'it returns false'. Refute it at one input. -/
def rowsJoinsWrong : ChangeSpec := { name := "rowsJoins", fn := fun _ => fun
  | [d1, d2, d3, d4] => { results := [.lit (.bool false)], args := [d1, d2, d3, d4] }
  | _ => none }
def RowsJoinsWrongFalsely : Prop := rowsJoinsRow.holds Try.pinned (OpenSpec.ofChange rowsJoinsWrong)

/-- 'tidemarklaw18.RowsSound': WHATEVER THE INPUT: true; the input reads as it did. -/
def rowsSoundSpec : ChangeSpec := { name := "rowsSound", fn := fun _ => fun
  | [d1, d2] => { results := [.lit (.bool true)], args := [d1, d2] }
  | _ => none }
def rowsSoundRow : OpenClaim := { program := "ytjdfajibflodbaa", sum := "924a017e88b96f1ea665637007ec6fb4e97ca21d07243ebf24f04c238b894780", func := "tidemark/tidemarklaw18.RowsSound", spec := "rowsSound", apart := false }
def RowsSoundSaid : Prop := rowsSoundRow.holds Try.pinned (OpenSpec.ofChange rowsSoundSpec)

/-- ITS FALSE NEIGHBOUR: 'it returns false'. Refute it at one input. -/
def rowsSoundWrong : ChangeSpec := { name := "rowsSound", fn := fun _ => fun
  | [d1, d2] => { results := [.lit (.bool false)], args := [d1, d2] }
  | _ => none }
def RowsSoundWrongFalsely : Prop := rowsSoundRow.holds Try.pinned (OpenSpec.ofChange rowsSoundWrong)

/-- 'tidemarklaw18.RowsFresh': WHATEVER THE INPUT: true; the input reads as it did. -/
def rowsFreshSpec : ChangeSpec := { name := "rowsFresh", fn := fun _ => fun
  | [d1, d2, d3] => { results := [.lit (.bool true)], args := [d1, d2, d3] }
  | _ => none }
def rowsFreshRow : OpenClaim := { program := "ytjdfajibflodbaa", sum := "924a017e88b96f1ea665637007ec6fb4e97ca21d07243ebf24f04c238b894780", func := "tidemark/tidemarklaw18.RowsFresh", spec := "rowsFresh", apart := false }
def RowsFreshSaid : Prop := rowsFreshRow.holds Try.pinned (OpenSpec.ofChange rowsFreshSpec)

/-- ITS FALSE NEIGHBOUR: 'it returns false'. Refute it at one input. -/
def rowsFreshWrong : ChangeSpec := { name := "rowsFresh", fn := fun _ => fun
  | [d1, d2, d3] => { results := [.lit (.bool false)], args := [d1, d2, d3] }
  | _ => none }
def RowsFreshWrongFalsely : Prop := rowsFreshRow.holds Try.pinned (OpenSpec.ofChange rowsFreshWrong)

/-- 'tidemarklaw18.RowsJoined': WHATEVER THE INPUT: true; the input reads as it did. -/
def rowsJoinedSpec : ChangeSpec := { name := "rowsJoined", fn := fun _ => fun
  | [d1, d2, d3, d4] => { results := [.lit (.bool true)], args := [d1, d2, d3, d4] }
  | _ => none }
def rowsJoinedRow : OpenClaim := { program := "ytjdfajibflodbaa", sum := "924a017e88b96f1ea665637007ec6fb4e97ca21d07243ebf24f04c238b894780", func := "tidemark/tidemarklaw18.RowsJoined", spec := "rowsJoined", apart := false }
def RowsJoinedSaid : Prop := rowsJoinedRow.holds Try.pinned (OpenSpec.ofChange rowsJoinedSpec)

/-- ITS FALSE NEIGHBOUR: 'it returns false'. Refute it at one input. -/
def rowsJoinedWrong : ChangeSpec := { name := "rowsJoined", fn := fun _ => fun
  | [d1, d2, d3, d4] => { results := [.lit (.bool false)], args := [d1, d2, d3, d4] }
  | _ => none }
def RowsJoinedWrongFalsely : Prop := rowsJoinedRow.holds Try.pinned (OpenSpec.ofChange rowsJoinedWrong)

/-- 'tidemarklaw18.RowsHints': WHATEVER THE INPUT: true; the input reads as it did. -/
def rowsHintsSpec : ChangeSpec := { name := "rowsHints", fn := fun _ => fun
  | [d1, d2, d3] => { results := [.lit (.bool true)], args := [d1, d2, d3] }
  | _ => none }
def rowsHintsRow : OpenClaim := { program := "ytjdfajibflodbaa", sum := "924a017e88b96f1ea665637007ec6fb4e97ca21d07243ebf24f04c238b894780", func := "tidemark/tidemarklaw18.RowsHints", spec := "rowsHints", apart := false }
def RowsHintsSaid : Prop := rowsHintsRow.holds Try.pinned (OpenSpec.ofChange rowsHintsSpec)

/-- ITS FALSE NEIGHBOUR: 'it returns false'. Refute it at one input. -/
def rowsHintsWrong : ChangeSpec := { name := "rowsHints", fn := fun _ => fun
  | [d1, d2, d3] => { results := [.lit (.bool false)], args := [d1, d2, d3] }
  | _ => none }
def RowsHintsWrongFalsely : Prop := rowsHintsRow.holds Try.pinned (OpenSpec.ofChange rowsHintsWrong)

/-- 'tidemarklaw18.RowsCut': WHATEVER THE INPUT: true; the input reads as it did. -/
def rowsCutSpec : ChangeSpec := { name := "rowsCut", fn := fun _ => fun
  | [d1, d2] => { results := [.lit (.bool true)], args := [d1, d2] }
  | _ => none }
def rowsCutRow : OpenClaim := { program := "ytjdfajibflodbaa", sum := "924a017e88b96f1ea665637007ec6fb4e97ca21d07243ebf24f04c238b894780", func := "tidemark/tidemarklaw18.RowsCut", spec := "rowsCut", apart := false }
def RowsCutSaid : Prop := rowsCutRow.holds Try.pinned (OpenSpec.ofChange rowsCutSpec)

/-- ITS FALSE NEIGHBOUR: 'it returns false'. Refute it at one input. -/
def rowsCutWrong : ChangeSpec := { name := "rowsCut", fn := fun _ => fun
  | [d1, d2] => { results := [.lit (.bool false)], args := [d1, d2] }
  | _ => none }
def RowsCutWrongFalsely : Prop := rowsCutRow.holds Try.pinned (OpenSpec.ofChange rowsCutWrong)

/-- 'tidemarklaw18.RowsTerms': WHATEVER THE INPUT: true; the input reads as it did. -/
def rowsTermsSpec : ChangeSpec := { name := "rowsTerms", fn := fun _ => fun
  | [d1, d2, d3] => { results := [.lit (.bool true)], args := [d1, d2, d3] }
  | _ => none }
def rowsTermsRow : OpenClaim := { program := "ytjdfajibflodbaa", sum := "924a017e88b96f1ea665637007ec6fb4e97ca21d07243ebf24f04c238b894780", func := "tidemark/tidemarklaw18.RowsTerms", spec := "rowsTerms", apart := false }
def RowsTermsSaid : Prop := rowsTermsRow.holds Try.pinned (OpenSpec.ofChange rowsTermsSpec)

/-- ITS FALSE NEIGHBOUR: 'it returns false'. Refute it at one input. -/
def rowsTermsWrong : ChangeSpec := { name := "rowsTerms", fn := fun _ => fun
  | [d1, d2, d3] => { results := [.lit (.bool false)], args := [d1, d2, d3] }
  | _ => none }
def RowsTermsWrongFalsely : Prop := rowsTermsRow.holds Try.pinned (OpenSpec.ofChange rowsTermsWrong)

/- THE SECOND FORM. 'bulk': how many values and letters a reading holds, each counted each time it is reached (what is shared counts as often as it is met; a slice's spare places count too). A statement '..UptoSaid' is the law's where the arguments, and the package variables that the reading takes, are together of bulk at most 1048576: NARROWER than '..Said'. Prove '..Said' where nothing that the law and all that it calls make is longer than what came in: it says more and counts as full. Else prove '..UptoSaid'. A law counts once. -/
mutual
def uptoBulk {H : Type} : DataW H → Nat
  | .lit (.string bytes) => bytes.length + 1
  | .lit _ => 1
  | .nil => 1
  | .ptr d => uptoBulk d + 1
  | .slice elems spare => uptoBulkAll elems + uptoBulkAll spare + 1
  | .agg parts => uptoBulkAll parts + 1
  | .iface _ d => uptoBulk d + 1
  | .map entries => uptoBulkEntries entries + 1
  | .held _ => 1
def uptoBulkAll {H : Type} : List (DataW H) → Nat
  | [] => 0
  | d :: r => uptoBulk d + uptoBulkAll r
def uptoBulkEntries {H : Type} : List (Lit × DataW H) → Nat
  | [] => 0
  | x :: r => uptoBulkEntry x + uptoBulkEntries r
def uptoBulkEntry {H : Type} : Lit × DataW H → Nat
  | (.string bytes, d) => bytes.length + uptoBulk d + 1
  | (_, d) => uptoBulk d + 1
 end
def uptoSmall : (H : Type) → List (DataW H) → Bool := fun _ ds => decide (uptoBulkAll ds ≤ 1048576)
def OpenSpec.upto (s : _root_.Go.ChangeSpec) : _root_.Go.OpenSpec := { _root_.Go.OpenSpec.ofChange s with cond := some uptoSmall }

/-- 'tidemarklaw18.RowsChecks', WHERE WHAT IT READS IS OF BULK AT MOST 1048576: true; the input reads as it did. -/
def rowsChecksUptoRow : OpenClaim := { program := "ytjdfajibflodbaa", sum := "924a017e88b96f1ea665637007ec6fb4e97ca21d07243ebf24f04c238b894780", func := "tidemark/tidemarklaw18.RowsChecks", spec := "rowsChecks", apart := false, narrowed := true }
def RowsChecksUptoSaid : Prop := rowsChecksUptoRow.holds Try.pinned (OpenSpec.upto rowsChecksSpec)

/-- 'tidemarklaw18.RowsJoins', WHERE WHAT IT READS IS OF BULK AT MOST 1048576: true; the input reads as it did. -/
def rowsJoinsUptoRow : OpenClaim := { program := "ytjdfajibflodbaa", sum := "924a017e88b96f1ea665637007ec6fb4e97ca21d07243ebf24f04c238b894780", func := "tidemark/tidemarklaw18.RowsJoins", spec := "rowsJoins", apart := false, narrowed := true }
def RowsJoinsUptoSaid : Prop := rowsJoinsUptoRow.holds Try.pinned (OpenSpec.upto rowsJoinsSpec)

/-- 'tidemarklaw18.RowsSound', WHERE WHAT IT READS IS OF BULK AT MOST 1048576: true; the input reads as it did. -/
def rowsSoundUptoRow : OpenClaim := { program := "ytjdfajibflodbaa", sum := "924a017e88b96f1ea665637007ec6fb4e97ca21d07243ebf24f04c238b894780", func := "tidemark/tidemarklaw18.RowsSound", spec := "rowsSound", apart := false, narrowed := true }
def RowsSoundUptoSaid : Prop := rowsSoundUptoRow.holds Try.pinned (OpenSpec.upto rowsSoundSpec)

/-- 'tidemarklaw18.RowsFresh', WHERE WHAT IT READS IS OF BULK AT MOST 1048576: true; the input reads as it did. -/
def rowsFreshUptoRow : OpenClaim := { program := "ytjdfajibflodbaa", sum := "924a017e88b96f1ea665637007ec6fb4e97ca21d07243ebf24f04c238b894780", func := "tidemark/tidemarklaw18.RowsFresh", spec := "rowsFresh", apart := false, narrowed := true }
def RowsFreshUptoSaid : Prop := rowsFreshUptoRow.holds Try.pinned (OpenSpec.upto rowsFreshSpec)

/-- 'tidemarklaw18.RowsJoined', WHERE WHAT IT READS IS OF BULK AT MOST 1048576: true; the input reads as it did. -/
def rowsJoinedUptoRow : OpenClaim := { program := "ytjdfajibflodbaa", sum := "924a017e88b96f1ea665637007ec6fb4e97ca21d07243ebf24f04c238b894780", func := "tidemark/tidemarklaw18.RowsJoined", spec := "rowsJoined", apart := false, narrowed := true }
def RowsJoinedUptoSaid : Prop := rowsJoinedUptoRow.holds Try.pinned (OpenSpec.upto rowsJoinedSpec)

/-- 'tidemarklaw18.RowsHints', WHERE WHAT IT READS IS OF BULK AT MOST 1048576: true; the input reads as it did. -/
def rowsHintsUptoRow : OpenClaim := { program := "ytjdfajibflodbaa", sum := "924a017e88b96f1ea665637007ec6fb4e97ca21d07243ebf24f04c238b894780", func := "tidemark/tidemarklaw18.RowsHints", spec := "rowsHints", apart := false, narrowed := true }
def RowsHintsUptoSaid : Prop := rowsHintsUptoRow.holds Try.pinned (OpenSpec.upto rowsHintsSpec)

/-- 'tidemarklaw18.RowsCut', WHERE WHAT IT READS IS OF BULK AT MOST 1048576: true; the input reads as it did. -/
def rowsCutUptoRow : OpenClaim := { program := "ytjdfajibflodbaa", sum := "924a017e88b96f1ea665637007ec6fb4e97ca21d07243ebf24f04c238b894780", func := "tidemark/tidemarklaw18.RowsCut", spec := "rowsCut", apart := false, narrowed := true }
def RowsCutUptoSaid : Prop := rowsCutUptoRow.holds Try.pinned (OpenSpec.upto rowsCutSpec)

/-- 'tidemarklaw18.RowsTerms', WHERE WHAT IT READS IS OF BULK AT MOST 1048576: true; the input reads as it did. -/
def rowsTermsUptoRow : OpenClaim := { program := "ytjdfajibflodbaa", sum := "924a017e88b96f1ea665637007ec6fb4e97ca21d07243ebf24f04c238b894780", func := "tidemark/tidemarklaw18.RowsTerms", spec := "rowsTerms", apart := false, narrowed := true }
def RowsTermsUptoSaid : Prop := rowsTermsUptoRow.holds Try.pinned (OpenSpec.upto rowsTermsSpec)

end Rows
end Go.Proofs.Ytjdfajibflodbaa
