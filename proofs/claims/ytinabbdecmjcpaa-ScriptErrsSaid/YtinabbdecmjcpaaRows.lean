/-
  No cell of these rows narrows 'for every input' (looked for: loops, veiled, ifaces, maps, wideKeys, modest, calm, conditions, laid).
  DERIVED. THE GIVEN ROWS OF THIS SEAT. 8 by the template 'for every input the law returns true; each argument reads behind the call as it read before'; 0 by the template 'total and deterministic' (their statements: YtinabbdecmjcpaaTotals.lean).
  GIVEN WITH THE SEED: the statements are not yours to turn. If you find one false, say at which input.
  Laid BY PROGRAM, IN A SANDBOX (cutbox-rows.mjs): the forced cells as the released guide's own fill.sh prints them over the translation 46b777ef81caf0ad… (all of the seat's roots in one cut). By AI agents, Wed Nov 11 2026. No macro, syntax, notation, axiom, sorry.
-/
import Derived.Test.YtinabbdecmjcpaaChecked
import GoSem.Claim
import GoSem.ClaimJoined
import GoSem.ClaimMapViews
import Derived.JoinedTies
import Derived.KernelRfl
namespace Go.Proofs.Ytinabbdecmjcpaa
/- THE CELL 'sum', in the pinned program and in every row, IS THE sha256 OF THE DUMP (.gsa) THAT YtinabbdecmjcpaaProg.lean LOADS. Nothing in Lean hashes anything: it is a label: what it is worth is what the hold of that sum in a sandbox is worth. -/
noncomputable def Try.pinned : Pinned := { name := "ytinabbdecmjcpaa", sum := "46b777ef81caf0ad684f8ceea07b5310d16b67edfa653649375309a105cffa16", checked := Try.checked }
namespace Rows
def none {H : Type} : Left H := { results := [], args := [] }

/-- 'taximeterlaw07.NameBytes': WHATEVER THE INPUT: true; the input reads as it did. -/
def nameBytesSpec : ChangeSpec := { name := "nameBytes", fn := fun _ => fun
  | [d1, d2] => { results := [.lit (.bool true)], args := [d1, d2] }
  | _ => none }
def nameBytesRow : OpenClaim := { program := "ytinabbdecmjcpaa", sum := "46b777ef81caf0ad684f8ceea07b5310d16b67edfa653649375309a105cffa16", func := "taximeter/taximeterlaw07.NameBytes", spec := "nameBytes", unfollowed := true, recurses := true, apart := false }
def NameBytesSaid : Prop := nameBytesRow.holds Try.pinned (OpenSpec.ofChange nameBytesSpec)

/-- ITS FALSE NEIGHBOUR: 'it returns false'. Refute it at one input. -/
def nameBytesWrong : ChangeSpec := { name := "nameBytes", fn := fun _ => fun
  | [d1, d2] => { results := [.lit (.bool false)], args := [d1, d2] }
  | _ => none }
def NameBytesWrongFalsely : Prop := nameBytesRow.holds Try.pinned (OpenSpec.ofChange nameBytesWrong)

/-- 'taximeterlaw07.NameWords': WHATEVER THE INPUT: true; the input reads as it did. -/
def nameWordsSpec : ChangeSpec := { name := "nameWords", fn := fun _ => fun
  | [d] => { results := [.lit (.bool true)], args := [d] }
  | _ => none }
def nameWordsRow : OpenClaim := { program := "ytinabbdecmjcpaa", sum := "46b777ef81caf0ad684f8ceea07b5310d16b67edfa653649375309a105cffa16", func := "taximeter/taximeterlaw07.NameWords", spec := "nameWords", unfollowed := true, recurses := true, apart := false }
def NameWordsSaid : Prop := nameWordsRow.holds Try.pinned (OpenSpec.ofChange nameWordsSpec)

/-- ITS FALSE NEIGHBOUR: 'it returns false'. Refute it at one input. -/
def nameWordsWrong : ChangeSpec := { name := "nameWords", fn := fun _ => fun
  | [d] => { results := [.lit (.bool false)], args := [d] }
  | _ => none }
def NameWordsWrongFalsely : Prop := nameWordsRow.holds Try.pinned (OpenSpec.ofChange nameWordsWrong)

/-- 'taximeterlaw25.QueueDoes': WHATEVER THE INPUT: true; the input reads as it did. -/
def queueDoesSpec : ChangeSpec := { name := "queueDoes", fn := fun _ => fun
  | [d] => { results := [.lit (.bool true)], args := [d] }
  | _ => none }
def queueDoesRow : OpenClaim := { program := "ytinabbdecmjcpaa", sum := "46b777ef81caf0ad684f8ceea07b5310d16b67edfa653649375309a105cffa16", func := "taximeter/taximeterlaw25.QueueDoes", spec := "queueDoes", apart := false }
def QueueDoesSaid : Prop := queueDoesRow.holds Try.pinned (OpenSpec.ofChange queueDoesSpec)

/-- ITS FALSE NEIGHBOUR: 'it returns false'. Refute it at one input. -/
def queueDoesWrong : ChangeSpec := { name := "queueDoes", fn := fun _ => fun
  | [d] => { results := [.lit (.bool false)], args := [d] }
  | _ => none }
def QueueDoesWrongFalsely : Prop := queueDoesRow.holds Try.pinned (OpenSpec.ofChange queueDoesWrong)

/-- 'taximeterlaw25.QueueOrder': WHATEVER THE INPUT: true; the input reads as it did. -/
def queueOrderSpec : ChangeSpec := { name := "queueOrder", fn := fun _ => fun
  | [d] => { results := [.lit (.bool true)], args := [d] }
  | _ => none }
def queueOrderRow : OpenClaim := { program := "ytinabbdecmjcpaa", sum := "46b777ef81caf0ad684f8ceea07b5310d16b67edfa653649375309a105cffa16", func := "taximeter/taximeterlaw25.QueueOrder", spec := "queueOrder", apart := false }
def QueueOrderSaid : Prop := queueOrderRow.holds Try.pinned (OpenSpec.ofChange queueOrderSpec)

/-- ITS FALSE NEIGHBOUR: 'it returns false'. Refute it at one input. -/
def queueOrderWrong : ChangeSpec := { name := "queueOrder", fn := fun _ => fun
  | [d] => { results := [.lit (.bool false)], args := [d] }
  | _ => none }
def QueueOrderWrongFalsely : Prop := queueOrderRow.holds Try.pinned (OpenSpec.ofChange queueOrderWrong)

/-- 'taximeterlaw08.LineWord': WHATEVER THE INPUT: true; the input reads as it did. -/
def lineWordSpec : ChangeSpec := { name := "lineWord", fn := fun _ => fun
  | [d] => { results := [.lit (.bool true)], args := [d] }
  | _ => none }
def lineWordRow : OpenClaim := { program := "ytinabbdecmjcpaa", sum := "46b777ef81caf0ad684f8ceea07b5310d16b67edfa653649375309a105cffa16", func := "taximeter/taximeterlaw08.LineWord", spec := "lineWord", unfollowed := true, recurses := true, apart := false }
def LineWordSaid : Prop := lineWordRow.holds Try.pinned (OpenSpec.ofChange lineWordSpec)

/-- ITS FALSE NEIGHBOUR: 'it returns false'. Refute it at one input. -/
def lineWordWrong : ChangeSpec := { name := "lineWord", fn := fun _ => fun
  | [d] => { results := [.lit (.bool false)], args := [d] }
  | _ => none }
def LineWordWrongFalsely : Prop := lineWordRow.holds Try.pinned (OpenSpec.ofChange lineWordWrong)

/-- 'taximeterlaw26.StreamOrder': WHATEVER THE INPUT: true; the input reads as it did. -/
def streamOrderSpec : ChangeSpec := { name := "streamOrder", fn := fun _ => fun
  | [d] => { results := [.lit (.bool true)], args := [d] }
  | _ => none }
def streamOrderRow : OpenClaim := { program := "ytinabbdecmjcpaa", sum := "46b777ef81caf0ad684f8ceea07b5310d16b67edfa653649375309a105cffa16", func := "taximeter/taximeterlaw26.StreamOrder", spec := "streamOrder", unfollowed := true, recurses := true, apart := false }
def StreamOrderSaid : Prop := streamOrderRow.holds Try.pinned (OpenSpec.ofChange streamOrderSpec)

/-- ITS FALSE NEIGHBOUR: 'it returns false'. Refute it at one input. -/
def streamOrderWrong : ChangeSpec := { name := "streamOrder", fn := fun _ => fun
  | [d] => { results := [.lit (.bool false)], args := [d] }
  | _ => none }
def StreamOrderWrongFalsely : Prop := streamOrderRow.holds Try.pinned (OpenSpec.ofChange streamOrderWrong)

/-- 'taximeterlaw26.StreamBegins': WHATEVER THE INPUT: true; the input reads as it did. -/
def streamBeginsSpec : ChangeSpec := { name := "streamBegins", fn := fun _ => fun
  | [d1, d2] => { results := [.lit (.bool true)], args := [d1, d2] }
  | _ => none }
def streamBeginsRow : OpenClaim := { program := "ytinabbdecmjcpaa", sum := "46b777ef81caf0ad684f8ceea07b5310d16b67edfa653649375309a105cffa16", func := "taximeter/taximeterlaw26.StreamBegins", spec := "streamBegins", unfollowed := true, recurses := true, apart := false }
def StreamBeginsSaid : Prop := streamBeginsRow.holds Try.pinned (OpenSpec.ofChange streamBeginsSpec)

/-- ITS FALSE NEIGHBOUR: 'it returns false'. Refute it at one input. -/
def streamBeginsWrong : ChangeSpec := { name := "streamBegins", fn := fun _ => fun
  | [d1, d2] => { results := [.lit (.bool false)], args := [d1, d2] }
  | _ => none }
def StreamBeginsWrongFalsely : Prop := streamBeginsRow.holds Try.pinned (OpenSpec.ofChange streamBeginsWrong)

/-- 'taximeterlaw40.ScriptErrs': WHATEVER THE INPUT: true; the input reads as it did. -/
def scriptErrsSpec : ChangeSpec := { name := "scriptErrs", fn := fun _ => fun
  | [d1, d2, d3] => { results := [.lit (.bool true)], args := [d1, d2, d3] }
  | _ => none }
def scriptErrsRow : OpenClaim := { program := "ytinabbdecmjcpaa", sum := "46b777ef81caf0ad684f8ceea07b5310d16b67edfa653649375309a105cffa16", func := "taximeter/taximeterlaw40.ScriptErrs", spec := "scriptErrs", inPlace := ["internal/bytealg.IndexByteString"], unfollowed := true, recurses := true, apart := false }
def ScriptErrsSaid : Prop := scriptErrsRow.holds Try.pinned (OpenSpec.ofChange scriptErrsSpec)

/-- ITS FALSE NEIGHBOUR: 'it returns false'. Refute it at one input. -/
def scriptErrsWrong : ChangeSpec := { name := "scriptErrs", fn := fun _ => fun
  | [d1, d2, d3] => { results := [.lit (.bool false)], args := [d1, d2, d3] }
  | _ => none }
def ScriptErrsWrongFalsely : Prop := scriptErrsRow.holds Try.pinned (OpenSpec.ofChange scriptErrsWrong)

/- THE SECOND FORM. 'bulk': how many values and letters a reading holds, each counted each time it is reached (what is shared counts as often as it is met; a slice's spare places count too). A statement '..UptoSaid' is the law's where the arguments, and the package variables that the reading takes, are together of bulk at most 1048576: NARROWER than '..Said'. Prove '..Said' where nothing that the law and all that it calls make is longer than what came in: it says more and counts as full. Else prove '..UptoSaid'. A law counts once. -/
mutual
def uptoBulk {H : Type} : DataW H → Nat
  | .lit (.string bytes) => bytes.length + 1
  | .lit _ => 1
  | .nil => 1
  | .ptr d => uptoBulk d + 1
  | .slice elems spare => uptoBulkAll elems + uptoBulkAll spare + 1
  | .agg parts => uptoBulkAll parts + 1
  | .iface _ d => uptoBulk d + 1
  | .map entries => uptoBulkEntries entries + 1
  | .held _ => 1
def uptoBulkAll {H : Type} : List (DataW H) → Nat
  | [] => 0
  | d :: r => uptoBulk d + uptoBulkAll r
def uptoBulkEntries {H : Type} : List (Lit × DataW H) → Nat
  | [] => 0
  | x :: r => uptoBulkEntry x + uptoBulkEntries r
def uptoBulkEntry {H : Type} : Lit × DataW H → Nat
  | (.string bytes, d) => bytes.length + uptoBulk d + 1
  | (_, d) => uptoBulk d + 1
 end
def uptoSmall : (H : Type) → List (DataW H) → Bool := fun _ ds => decide (uptoBulkAll ds ≤ 1048576)
def OpenSpec.upto (s : _root_.Go.ChangeSpec) : _root_.Go.OpenSpec := { _root_.Go.OpenSpec.ofChange s with cond := some uptoSmall }

/-- 'taximeterlaw07.NameBytes', WHERE WHAT IT READS IS OF BULK AT MOST 1048576: true; the input reads as it did. -/
def nameBytesUptoRow : OpenClaim := { program := "ytinabbdecmjcpaa", sum := "46b777ef81caf0ad684f8ceea07b5310d16b67edfa653649375309a105cffa16", func := "taximeter/taximeterlaw07.NameBytes", spec := "nameBytes", unfollowed := true, recurses := true, apart := false, narrowed := true }
def NameBytesUptoSaid : Prop := nameBytesUptoRow.holds Try.pinned (OpenSpec.upto nameBytesSpec)

/-- 'taximeterlaw07.NameWords', WHERE WHAT IT READS IS OF BULK AT MOST 1048576: true; the input reads as it did. -/
def nameWordsUptoRow : OpenClaim := { program := "ytinabbdecmjcpaa", sum := "46b777ef81caf0ad684f8ceea07b5310d16b67edfa653649375309a105cffa16", func := "taximeter/taximeterlaw07.NameWords", spec := "nameWords", unfollowed := true, recurses := true, apart := false, narrowed := true }
def NameWordsUptoSaid : Prop := nameWordsUptoRow.holds Try.pinned (OpenSpec.upto nameWordsSpec)

/-- 'taximeterlaw25.QueueDoes', WHERE WHAT IT READS IS OF BULK AT MOST 1048576: true; the input reads as it did. -/
def queueDoesUptoRow : OpenClaim := { program := "ytinabbdecmjcpaa", sum := "46b777ef81caf0ad684f8ceea07b5310d16b67edfa653649375309a105cffa16", func := "taximeter/taximeterlaw25.QueueDoes", spec := "queueDoes", apart := false, narrowed := true }
def QueueDoesUptoSaid : Prop := queueDoesUptoRow.holds Try.pinned (OpenSpec.upto queueDoesSpec)

/-- 'taximeterlaw25.QueueOrder', WHERE WHAT IT READS IS OF BULK AT MOST 1048576: true; the input reads as it did. -/
def queueOrderUptoRow : OpenClaim := { program := "ytinabbdecmjcpaa", sum := "46b777ef81caf0ad684f8ceea07b5310d16b67edfa653649375309a105cffa16", func := "taximeter/taximeterlaw25.QueueOrder", spec := "queueOrder", apart := false, narrowed := true }
def QueueOrderUptoSaid : Prop := queueOrderUptoRow.holds Try.pinned (OpenSpec.upto queueOrderSpec)

/-- 'taximeterlaw08.LineWord', WHERE WHAT IT READS IS OF BULK AT MOST 1048576: true; the input reads as it did. -/
def lineWordUptoRow : OpenClaim := { program := "ytinabbdecmjcpaa", sum := "46b777ef81caf0ad684f8ceea07b5310d16b67edfa653649375309a105cffa16", func := "taximeter/taximeterlaw08.LineWord", spec := "lineWord", unfollowed := true, recurses := true, apart := false, narrowed := true }
def LineWordUptoSaid : Prop := lineWordUptoRow.holds Try.pinned (OpenSpec.upto lineWordSpec)

/-- 'taximeterlaw26.StreamOrder', WHERE WHAT IT READS IS OF BULK AT MOST 1048576: true; the input reads as it did. -/
def streamOrderUptoRow : OpenClaim := { program := "ytinabbdecmjcpaa", sum := "46b777ef81caf0ad684f8ceea07b5310d16b67edfa653649375309a105cffa16", func := "taximeter/taximeterlaw26.StreamOrder", spec := "streamOrder", unfollowed := true, recurses := true, apart := false, narrowed := true }
def StreamOrderUptoSaid : Prop := streamOrderUptoRow.holds Try.pinned (OpenSpec.upto streamOrderSpec)

/-- 'taximeterlaw26.StreamBegins', WHERE WHAT IT READS IS OF BULK AT MOST 1048576: true; the input reads as it did. -/
def streamBeginsUptoRow : OpenClaim := { program := "ytinabbdecmjcpaa", sum := "46b777ef81caf0ad684f8ceea07b5310d16b67edfa653649375309a105cffa16", func := "taximeter/taximeterlaw26.StreamBegins", spec := "streamBegins", unfollowed := true, recurses := true, apart := false, narrowed := true }
def StreamBeginsUptoSaid : Prop := streamBeginsUptoRow.holds Try.pinned (OpenSpec.upto streamBeginsSpec)

/-- 'taximeterlaw40.ScriptErrs', WHERE WHAT IT READS IS OF BULK AT MOST 1048576: true; the input reads as it did. -/
def scriptErrsUptoRow : OpenClaim := { program := "ytinabbdecmjcpaa", sum := "46b777ef81caf0ad684f8ceea07b5310d16b67edfa653649375309a105cffa16", func := "taximeter/taximeterlaw40.ScriptErrs", spec := "scriptErrs", inPlace := ["internal/bytealg.IndexByteString"], unfollowed := true, recurses := true, apart := false, narrowed := true }
def ScriptErrsUptoSaid : Prop := scriptErrsUptoRow.holds Try.pinned (OpenSpec.upto scriptErrsSpec)

end Rows
end Go.Proofs.Ytinabbdecmjcpaa
