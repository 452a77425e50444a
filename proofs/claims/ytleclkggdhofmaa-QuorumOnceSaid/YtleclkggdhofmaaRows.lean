/-
  No cell of these rows narrows 'for every input' (looked for: loops, veiled, ifaces, maps, wideKeys, modest, calm, conditions, laid).
  DERIVED. THE GIVEN ROWS OF THIS SEAT. 5 by the template 'for every input the law returns true; each argument reads behind the call as it read before'; 0 by the template 'total and deterministic' (their statements: YtleclkggdhofmaaTotals.lean).
  GIVEN WITH THE SEED: the statements are not yours to turn. If you find one false, say at which input.
  Laid BY PROGRAM, IN A SANDBOX (cutbox-rows.mjs): the forced cells as the released guide's own fill.sh prints them over the translation 2df0b8cf9183f31b… (all of the seat's roots in one cut). By AI agents, Wed Nov 11 2026. No macro, syntax, notation, axiom, sorry.
-/
import Derived.Test.YtleclkggdhofmaaChecked
import GoSem.Claim
import GoSem.ClaimJoined
import GoSem.ClaimMapViews
import Derived.JoinedTies
import Derived.KernelRfl
namespace Go.Proofs.Ytleclkggdhofmaa
/- THE CELL 'sum', in the pinned program and in every row, IS THE sha256 OF THE DUMP (.gsa) THAT YtleclkggdhofmaaProg.lean LOADS. Nothing in Lean hashes anything: it is a label: what it is worth is what the hold of that sum in a sandbox is worth. -/
noncomputable def Try.pinned : Pinned := { name := "ytleclkggdhofmaa", sum := "2df0b8cf9183f31be0ddf00c01eb853d3f46703b85bfa520c05a31893021af71", checked := Try.checked }
namespace Rows
def none {H : Type} : Left H := { results := [], args := [] }

/-- 'bulwarklaw14.QuorumNumbers': WHATEVER THE INPUT: true; the input reads as it did. -/
def quorumNumbersSpec : ChangeSpec := { name := "quorumNumbers", fn := fun _ => fun
  | [d1, d2] => { results := [.lit (.bool true)], args := [d1, d2] }
  | _ => none }
def quorumNumbersRow : OpenClaim := { program := "ytleclkggdhofmaa", sum := "2df0b8cf9183f31be0ddf00c01eb853d3f46703b85bfa520c05a31893021af71", func := "bulwark/bulwarklaw14.QuorumNumbers", spec := "quorumNumbers", apart := false }
def QuorumNumbersSaid : Prop := quorumNumbersRow.holds Try.pinned (OpenSpec.ofChange quorumNumbersSpec)

/-- ITS FALSE NEIGHBOUR: 'it returns false'. Refute it at one input. -/
def quorumNumbersWrong : ChangeSpec := { name := "quorumNumbers", fn := fun _ => fun
  | [d1, d2] => { results := [.lit (.bool false)], args := [d1, d2] }
  | _ => none }
def QuorumNumbersWrongFalsely : Prop := quorumNumbersRow.holds Try.pinned (OpenSpec.ofChange quorumNumbersWrong)

/-- 'bulwarklaw14.QuorumMeets': WHATEVER THE INPUT: true; the input reads as it did. -/
def quorumMeetsSpec : ChangeSpec := { name := "quorumMeets", fn := fun _ => fun
  | [d1, d2, d3, d4] => { results := [.lit (.bool true)], args := [d1, d2, d3, d4] }
  | _ => none }
def quorumMeetsRow : OpenClaim := { program := "ytleclkggdhofmaa", sum := "2df0b8cf9183f31be0ddf00c01eb853d3f46703b85bfa520c05a31893021af71", func := "bulwark/bulwarklaw14.QuorumMeets", spec := "quorumMeets", apart := false }
def QuorumMeetsSaid : Prop := quorumMeetsRow.holds Try.pinned (OpenSpec.ofChange quorumMeetsSpec)

/-- ITS FALSE NEIGHBOUR: 'it returns false'. Refute it at one input. -/
def quorumMeetsWrong : ChangeSpec := { name := "quorumMeets", fn := fun _ => fun
  | [d1, d2, d3, d4] => { results := [.lit (.bool false)], args := [d1, d2, d3, d4] }
  | _ => none }
def QuorumMeetsWrongFalsely : Prop := quorumMeetsRow.holds Try.pinned (OpenSpec.ofChange quorumMeetsWrong)

/-- 'bulwarklaw14.QuorumTurns': WHATEVER THE INPUT: true; the input reads as it did. -/
def quorumTurnsSpec : ChangeSpec := { name := "quorumTurns", fn := fun _ => fun
  | [d1, d2] => { results := [.lit (.bool true)], args := [d1, d2] }
  | _ => none }
def quorumTurnsRow : OpenClaim := { program := "ytleclkggdhofmaa", sum := "2df0b8cf9183f31be0ddf00c01eb853d3f46703b85bfa520c05a31893021af71", func := "bulwark/bulwarklaw14.QuorumTurns", spec := "quorumTurns", apart := false }
def QuorumTurnsSaid : Prop := quorumTurnsRow.holds Try.pinned (OpenSpec.ofChange quorumTurnsSpec)

/-- ITS FALSE NEIGHBOUR: 'it returns false'. Refute it at one input. -/
def quorumTurnsWrong : ChangeSpec := { name := "quorumTurns", fn := fun _ => fun
  | [d1, d2] => { results := [.lit (.bool false)], args := [d1, d2] }
  | _ => none }
def QuorumTurnsWrongFalsely : Prop := quorumTurnsRow.holds Try.pinned (OpenSpec.ofChange quorumTurnsWrong)

/-- 'bulwarklaw14.QuorumOnce': WHATEVER THE INPUT: true; the input reads as it did. -/
def quorumOnceSpec : ChangeSpec := { name := "quorumOnce", fn := fun _ => fun
  | [d1, d2] => { results := [.lit (.bool true)], args := [d1, d2] }
  | _ => none }
def quorumOnceRow : OpenClaim := { program := "ytleclkggdhofmaa", sum := "2df0b8cf9183f31be0ddf00c01eb853d3f46703b85bfa520c05a31893021af71", func := "bulwark/bulwarklaw14.QuorumOnce", spec := "quorumOnce", apart := false }
def QuorumOnceSaid : Prop := quorumOnceRow.holds Try.pinned (OpenSpec.ofChange quorumOnceSpec)

/-- ITS FALSE NEIGHBOUR: 'it returns false'. Refute it at one input. -/
def quorumOnceWrong : ChangeSpec := { name := "quorumOnce", fn := fun _ => fun
  | [d1, d2] => { results := [.lit (.bool false)], args := [d1, d2] }
  | _ => none }
def QuorumOnceWrongFalsely : Prop := quorumOnceRow.holds Try.pinned (OpenSpec.ofChange quorumOnceWrong)

/-- 'bulwarklaw14.QuorumNils': WHATEVER THE INPUT: true; the input reads as it did. -/
def quorumNilsSpec : ChangeSpec := { name := "quorumNils", fn := fun _ => fun
  | [d1, d2, d3] => { results := [.lit (.bool true)], args := [d1, d2, d3] }
  | _ => none }
def quorumNilsRow : OpenClaim := { program := "ytleclkggdhofmaa", sum := "2df0b8cf9183f31be0ddf00c01eb853d3f46703b85bfa520c05a31893021af71", func := "bulwark/bulwarklaw14.QuorumNils", spec := "quorumNils", apart := false }
def QuorumNilsSaid : Prop := quorumNilsRow.holds Try.pinned (OpenSpec.ofChange quorumNilsSpec)

/-- ITS FALSE NEIGHBOUR: 'it returns false'. Refute it at one input. -/
def quorumNilsWrong : ChangeSpec := { name := "quorumNils", fn := fun _ => fun
  | [d1, d2, d3] => { results := [.lit (.bool false)], args := [d1, d2, d3] }
  | _ => none }
def QuorumNilsWrongFalsely : Prop := quorumNilsRow.holds Try.pinned (OpenSpec.ofChange quorumNilsWrong)

/- THE SECOND FORM. 'bulk': how many values and letters a reading holds, each counted each time it is reached (what is shared counts as often as it is met; a slice's spare places count too). A statement '..UptoSaid' is the law's where the arguments, and the package variables that the reading takes, are together of bulk at most 1048576: NARROWER than '..Said'. Prove '..Said' where nothing that the law and all that it calls make is longer than what came in: it says more and counts as full. Else prove '..UptoSaid'. A law counts once. -/
mutual
def uptoBulk {H : Type} : DataW H → Nat
  | .lit (.string bytes) => bytes.length + 1
  | .lit _ => 1
  | .nil => 1
  | .ptr d => uptoBulk d + 1
  | .slice elems spare => uptoBulkAll elems + uptoBulkAll spare + 1
  | .agg parts => uptoBulkAll parts + 1
  | .iface _ d => uptoBulk d + 1
  | .map entries => uptoBulkEntries entries + 1
  | .held _ => 1
def uptoBulkAll {H : Type} : List (DataW H) → Nat
  | [] => 0
  | d :: r => uptoBulk d + uptoBulkAll r
def uptoBulkEntries {H : Type} : List (Lit × DataW H) → Nat
  | [] => 0
  | x :: r => uptoBulkEntry x + uptoBulkEntries r
def uptoBulkEntry {H : Type} : Lit × DataW H → Nat
  | (.string bytes, d) => bytes.length + uptoBulk d + 1
  | (_, d) => uptoBulk d + 1
 end
def uptoSmall : (H : Type) → List (DataW H) → Bool := fun _ ds => decide (uptoBulkAll ds ≤ 1048576)
def OpenSpec.upto (s : _root_.Go.ChangeSpec) : _root_.Go.OpenSpec := { _root_.Go.OpenSpec.ofChange s with cond := some uptoSmall }

/-- 'bulwarklaw14.QuorumNumbers', WHERE WHAT IT READS IS OF BULK AT MOST 1048576: true; the input reads as it did. -/
def quorumNumbersUptoRow : OpenClaim := { program := "ytleclkggdhofmaa", sum := "2df0b8cf9183f31be0ddf00c01eb853d3f46703b85bfa520c05a31893021af71", func := "bulwark/bulwarklaw14.QuorumNumbers", spec := "quorumNumbers", apart := false, narrowed := true }
def QuorumNumbersUptoSaid : Prop := quorumNumbersUptoRow.holds Try.pinned (OpenSpec.upto quorumNumbersSpec)

/-- 'bulwarklaw14.QuorumMeets', WHERE WHAT IT READS IS OF BULK AT MOST 1048576: true; the input reads as it did. -/
def quorumMeetsUptoRow : OpenClaim := { program := "ytleclkggdhofmaa", sum := "2df0b8cf9183f31be0ddf00c01eb853d3f46703b85bfa520c05a31893021af71", func := "bulwark/bulwarklaw14.QuorumMeets", spec := "quorumMeets", apart := false, narrowed := true }
def QuorumMeetsUptoSaid : Prop := quorumMeetsUptoRow.holds Try.pinned (OpenSpec.upto quorumMeetsSpec)

/-- 'bulwarklaw14.QuorumTurns', WHERE WHAT IT READS IS OF BULK AT MOST 1048576: true; the input reads as it did. -/
def quorumTurnsUptoRow : OpenClaim := { program := "ytleclkggdhofmaa", sum := "2df0b8cf9183f31be0ddf00c01eb853d3f46703b85bfa520c05a31893021af71", func := "bulwark/bulwarklaw14.QuorumTurns", spec := "quorumTurns", apart := false, narrowed := true }
def QuorumTurnsUptoSaid : Prop := quorumTurnsUptoRow.holds Try.pinned (OpenSpec.upto quorumTurnsSpec)

/-- 'bulwarklaw14.QuorumOnce', WHERE WHAT IT READS IS OF BULK AT MOST 1048576: true; the input reads as it did. -/
def quorumOnceUptoRow : OpenClaim := { program := "ytleclkggdhofmaa", sum := "2df0b8cf9183f31be0ddf00c01eb853d3f46703b85bfa520c05a31893021af71", func := "bulwark/bulwarklaw14.QuorumOnce", spec := "quorumOnce", apart := false, narrowed := true }
def QuorumOnceUptoSaid : Prop := quorumOnceUptoRow.holds Try.pinned (OpenSpec.upto quorumOnceSpec)

/-- 'bulwarklaw14.QuorumNils', WHERE WHAT IT READS IS OF BULK AT MOST 1048576: true; the input reads as it did. -/
def quorumNilsUptoRow : OpenClaim := { program := "ytleclkggdhofmaa", sum := "2df0b8cf9183f31be0ddf00c01eb853d3f46703b85bfa520c05a31893021af71", func := "bulwark/bulwarklaw14.QuorumNils", spec := "quorumNils", apart := false, narrowed := true }
def QuorumNilsUptoSaid : Prop := quorumNilsUptoRow.holds Try.pinned (OpenSpec.upto quorumNilsSpec)

end Rows
end Go.Proofs.Ytleclkggdhofmaa
