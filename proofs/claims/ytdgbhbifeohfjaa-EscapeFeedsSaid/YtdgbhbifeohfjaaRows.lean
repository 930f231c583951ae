/-
  No cell of these rows narrows 'for every input' (looked for: loops, veiled, ifaces, maps, wideKeys, modest, calm, conditions, laid).
  DERIVED. THE GIVEN ROWS OF THIS SEAT. 8 by the template 'for every input the law returns true; each argument reads behind the call as it read before'; 0 by the template 'total and deterministic' (their statements: YtdgbhbifeohfjaaTotals.lean).
  GIVEN WITH THE SEED: the statements are not yours to turn. If you find one false, say at which input.
  Laid BY PROGRAM, IN A SANDBOX (cutbox-rows.mjs): the forced cells as the released guide's own fill.sh prints them over the translation 55ad18b88500863b… (all of the seat's roots in one cut). By AI agents, Wed Nov 11 2026. No macro, syntax, notation, axiom, sorry.
-/
import Derived.Test.YtdgbhbifeohfjaaChecked
import GoSem.Claim
import GoSem.ClaimJoined
import GoSem.ClaimMapViews
import Derived.JoinedTies
import Derived.KernelRfl
namespace Go.Proofs.Ytdgbhbifeohfjaa
/- THE CELL 'sum', in the pinned program and in every row, IS THE sha256 OF THE DUMP (.gsa) THAT YtdgbhbifeohfjaaProg.lean LOADS. Nothing in Lean hashes anything: it is a label: what it is worth is what the hold of that sum in a sandbox is worth. -/
noncomputable def Try.pinned : Pinned := { name := "ytdgbhbifeohfjaa", sum := "55ad18b88500863bf49411f8d4c28d71d933bfe02373ec00699b610f2ada2f0b", checked := Try.checked }
namespace Rows
def none {H : Type} : Left H := { results := [], args := [] }

/-- 'wheelhouselaw35.MenuKeys': WHATEVER THE INPUT: true; the input reads as it did. -/
def menuKeysSpec : ChangeSpec := { name := "menuKeys", fn := fun _ => fun
  | [d1, d2] => { results := [.lit (.bool true)], args := [d1, d2] }
  | _ => none }
def menuKeysRow : OpenClaim := { program := "ytdgbhbifeohfjaa", sum := "55ad18b88500863bf49411f8d4c28d71d933bfe02373ec00699b610f2ada2f0b", func := "wheelhouse/wheelhouselaw35.MenuKeys", spec := "menuKeys", apart := false }
def MenuKeysSaid : Prop := menuKeysRow.holds Try.pinned (OpenSpec.ofChange menuKeysSpec)

/-- ITS FALSE NEIGHBOUR: 'it returns false'. Refute it at one input. -/
def menuKeysWrong : ChangeSpec := { name := "menuKeys", fn := fun _ => fun
  | [d1, d2] => { results := [.lit (.bool false)], args := [d1, d2] }
  | _ => none }
def MenuKeysWrongFalsely : Prop := menuKeysRow.holds Try.pinned (OpenSpec.ofChange menuKeysWrong)

/-- 'wheelhouselaw35.MenuLines': WHATEVER THE INPUT: true; the input reads as it did. -/
def menuLinesSpec : ChangeSpec := { name := "menuLines", fn := fun _ => fun
  | [d] => { results := [.lit (.bool true)], args := [d] }
  | _ => none }
def menuLinesRow : OpenClaim := { program := "ytdgbhbifeohfjaa", sum := "55ad18b88500863bf49411f8d4c28d71d933bfe02373ec00699b610f2ada2f0b", func := "wheelhouse/wheelhouselaw35.MenuLines", spec := "menuLines", apart := false }
def MenuLinesSaid : Prop := menuLinesRow.holds Try.pinned (OpenSpec.ofChange menuLinesSpec)

/-- ITS FALSE NEIGHBOUR: 'it returns false'. Refute it at one input. -/
def menuLinesWrong : ChangeSpec := { name := "menuLines", fn := fun _ => fun
  | [d] => { results := [.lit (.bool false)], args := [d] }
  | _ => none }
def MenuLinesWrongFalsely : Prop := menuLinesRow.holds Try.pinned (OpenSpec.ofChange menuLinesWrong)

/-- 'wheelhouselaw24.TextFeeds': WHATEVER THE INPUT: true; the input reads as it did. -/
def textFeedsSpec : ChangeSpec := { name := "textFeeds", fn := fun _ => fun
  | [d1, d2] => { results := [.lit (.bool true)], args := [d1, d2] }
  | _ => none }
def textFeedsRow : OpenClaim := { program := "ytdgbhbifeohfjaa", sum := "55ad18b88500863bf49411f8d4c28d71d933bfe02373ec00699b610f2ada2f0b", func := "wheelhouse/wheelhouselaw24.TextFeeds", spec := "textFeeds", apart := false }
def TextFeedsSaid : Prop := textFeedsRow.holds Try.pinned (OpenSpec.ofChange textFeedsSpec)

/-- ITS FALSE NEIGHBOUR: 'it returns false'. Refute it at one input. -/
def textFeedsWrong : ChangeSpec := { name := "textFeeds", fn := fun _ => fun
  | [d1, d2] => { results := [.lit (.bool false)], args := [d1, d2] }
  | _ => none }
def TextFeedsWrongFalsely : Prop := textFeedsRow.holds Try.pinned (OpenSpec.ofChange textFeedsWrong)

/-- 'wheelhouselaw24.TextGoes': WHATEVER THE INPUT: true; the input reads as it did. -/
def textGoesSpec : ChangeSpec := { name := "textGoes", fn := fun _ => fun
  | [d1, d2, d3] => { results := [.lit (.bool true)], args := [d1, d2, d3] }
  | _ => none }
def textGoesRow : OpenClaim := { program := "ytdgbhbifeohfjaa", sum := "55ad18b88500863bf49411f8d4c28d71d933bfe02373ec00699b610f2ada2f0b", func := "wheelhouse/wheelhouselaw24.TextGoes", spec := "textGoes", apart := false }
def TextGoesSaid : Prop := textGoesRow.holds Try.pinned (OpenSpec.ofChange textGoesSpec)

/-- ITS FALSE NEIGHBOUR: 'it returns false'. Refute it at one input. -/
def textGoesWrong : ChangeSpec := { name := "textGoes", fn := fun _ => fun
  | [d1, d2, d3] => { results := [.lit (.bool false)], args := [d1, d2, d3] }
  | _ => none }
def TextGoesWrongFalsely : Prop := textGoesRow.holds Try.pinned (OpenSpec.ofChange textGoesWrong)

/-- 'wheelhouselaw24.TextNone': WHATEVER THE INPUT: true; the input reads as it did. -/
def textNoneSpec : ChangeSpec := { name := "textNone", fn := fun _ => fun
  | [d] => { results := [.lit (.bool true)], args := [d] }
  | _ => none }
def textNoneRow : OpenClaim := { program := "ytdgbhbifeohfjaa", sum := "55ad18b88500863bf49411f8d4c28d71d933bfe02373ec00699b610f2ada2f0b", func := "wheelhouse/wheelhouselaw24.TextNone", spec := "textNone", apart := false }
def TextNoneSaid : Prop := textNoneRow.holds Try.pinned (OpenSpec.ofChange textNoneSpec)

/-- ITS FALSE NEIGHBOUR: 'it returns false'. Refute it at one input. -/
def textNoneWrong : ChangeSpec := { name := "textNone", fn := fun _ => fun
  | [d] => { results := [.lit (.bool false)], args := [d] }
  | _ => none }
def TextNoneWrongFalsely : Prop := textNoneRow.holds Try.pinned (OpenSpec.ofChange textNoneWrong)

/-- 'wheelhouselaw26.EscapeFeeds': WHATEVER THE INPUT: true; the input reads as it did. -/
def escapeFeedsSpec : ChangeSpec := { name := "escapeFeeds", fn := fun _ => fun
  | [d] => { results := [.lit (.bool true)], args := [d] }
  | _ => none }
def escapeFeedsRow : OpenClaim := { program := "ytdgbhbifeohfjaa", sum := "55ad18b88500863bf49411f8d4c28d71d933bfe02373ec00699b610f2ada2f0b", func := "wheelhouse/wheelhouselaw26.EscapeFeeds", spec := "escapeFeeds", unfollowed := true, recurses := true, apart := false }
def EscapeFeedsSaid : Prop := escapeFeedsRow.holds Try.pinned (OpenSpec.ofChange escapeFeedsSpec)

/-- ITS FALSE NEIGHBOUR: 'it returns false'. Refute it at one input. -/
def escapeFeedsWrong : ChangeSpec := { name := "escapeFeeds", fn := fun _ => fun
  | [d] => { results := [.lit (.bool false)], args := [d] }
  | _ => none }
def EscapeFeedsWrongFalsely : Prop := escapeFeedsRow.holds Try.pinned (OpenSpec.ofChange escapeFeedsWrong)

/-- 'wheelhouselaw26.EscapeKeeps': WHATEVER THE INPUT: true; the input reads as it did. -/
def escapeKeepsSpec : ChangeSpec := { name := "escapeKeeps", fn := fun _ => fun
  | [d] => { results := [.lit (.bool true)], args := [d] }
  | _ => none }
def escapeKeepsRow : OpenClaim := { program := "ytdgbhbifeohfjaa", sum := "55ad18b88500863bf49411f8d4c28d71d933bfe02373ec00699b610f2ada2f0b", func := "wheelhouse/wheelhouselaw26.EscapeKeeps", spec := "escapeKeeps", unfollowed := true, recurses := true, apart := false }
def EscapeKeepsSaid : Prop := escapeKeepsRow.holds Try.pinned (OpenSpec.ofChange escapeKeepsSpec)

/-- ITS FALSE NEIGHBOUR: 'it returns false'. Refute it at one input. -/
def escapeKeepsWrong : ChangeSpec := { name := "escapeKeeps", fn := fun _ => fun
  | [d] => { results := [.lit (.bool false)], args := [d] }
  | _ => none }
def EscapeKeepsWrongFalsely : Prop := escapeKeepsRow.holds Try.pinned (OpenSpec.ofChange escapeKeepsWrong)

/-- 'wheelhouselaw26.EscapeNone': WHATEVER THE INPUT: true; the input reads as it did. -/
def escapeNoneSpec : ChangeSpec := { name := "escapeNone", fn := fun _ => fun
  | [d] => { results := [.lit (.bool true)], args := [d] }
  | _ => none }
def escapeNoneRow : OpenClaim := { program := "ytdgbhbifeohfjaa", sum := "55ad18b88500863bf49411f8d4c28d71d933bfe02373ec00699b610f2ada2f0b", func := "wheelhouse/wheelhouselaw26.EscapeNone", spec := "escapeNone", unfollowed := true, recurses := true, apart := false }
def EscapeNoneSaid : Prop := escapeNoneRow.holds Try.pinned (OpenSpec.ofChange escapeNoneSpec)

/-- ITS FALSE NEIGHBOUR: 'it returns false'. Refute it at one input. -/
def escapeNoneWrong : ChangeSpec := { name := "escapeNone", fn := fun _ => fun
  | [d] => { results := [.lit (.bool false)], args := [d] }
  | _ => none }
def EscapeNoneWrongFalsely : Prop := escapeNoneRow.holds Try.pinned (OpenSpec.ofChange escapeNoneWrong)

/- THE SECOND FORM. 'bulk': how many values and letters a reading holds, each counted each time it is reached (what is shared counts as often as it is met; a slice's spare places count too). A statement '..UptoSaid' is the law's where the arguments, and the package variables that the reading takes, are together of bulk at most 1048576: NARROWER than '..Said'. Prove '..Said' where nothing that the law and all that it calls make is longer than what came in: it says more and counts as full. Else prove '..UptoSaid'. A law counts once. -/
mutual
def uptoBulk {H : Type} : DataW H → Nat
  | .lit (.string bytes) => bytes.length + 1
  | .lit _ => 1
  | .nil => 1
  | .ptr d => uptoBulk d + 1
  | .slice elems spare => uptoBulkAll elems + uptoBulkAll spare + 1
  | .agg parts => uptoBulkAll parts + 1
  | .iface _ d => uptoBulk d + 1
  | .map entries => uptoBulkEntries entries + 1
  | .held _ => 1
def uptoBulkAll {H : Type} : List (DataW H) → Nat
  | [] => 0
  | d :: r => uptoBulk d + uptoBulkAll r
def uptoBulkEntries {H : Type} : List (Lit × DataW H) → Nat
  | [] => 0
  | x :: r => uptoBulkEntry x + uptoBulkEntries r
def uptoBulkEntry {H : Type} : Lit × DataW H → Nat
  | (.string bytes, d) => bytes.length + uptoBulk d + 1
  | (_, d) => uptoBulk d + 1
 end
def uptoSmall : (H : Type) → List (DataW H) → Bool := fun _ ds => decide (uptoBulkAll ds ≤ 1048576)
def OpenSpec.upto (s : _root_.Go.ChangeSpec) : _root_.Go.OpenSpec := { _root_.Go.OpenSpec.ofChange s with cond := some uptoSmall }

/-- 'wheelhouselaw35.MenuKeys', WHERE WHAT IT READS IS OF BULK AT MOST 1048576: true; the input reads as it did. -/
def menuKeysUptoRow : OpenClaim := { program := "ytdgbhbifeohfjaa", sum := "55ad18b88500863bf49411f8d4c28d71d933bfe02373ec00699b610f2ada2f0b", func := "wheelhouse/wheelhouselaw35.MenuKeys", spec := "menuKeys", apart := false, narrowed := true }
def MenuKeysUptoSaid : Prop := menuKeysUptoRow.holds Try.pinned (OpenSpec.upto menuKeysSpec)

/-- 'wheelhouselaw35.MenuLines', WHERE WHAT IT READS IS OF BULK AT MOST 1048576: true; the input reads as it did. -/
def menuLinesUptoRow : OpenClaim := { program := "ytdgbhbifeohfjaa", sum := "55ad18b88500863bf49411f8d4c28d71d933bfe02373ec00699b610f2ada2f0b", func := "wheelhouse/wheelhouselaw35.MenuLines", spec := "menuLines", apart := false, narrowed := true }
def MenuLinesUptoSaid : Prop := menuLinesUptoRow.holds Try.pinned (OpenSpec.upto menuLinesSpec)

/-- 'wheelhouselaw24.TextFeeds', WHERE WHAT IT READS IS OF BULK AT MOST 1048576: true; the input reads as it did. -/
def textFeedsUptoRow : OpenClaim := { program := "ytdgbhbifeohfjaa", sum := "55ad18b88500863bf49411f8d4c28d71d933bfe02373ec00699b610f2ada2f0b", func := "wheelhouse/wheelhouselaw24.TextFeeds", spec := "textFeeds", apart := false, narrowed := true }
def TextFeedsUptoSaid : Prop := textFeedsUptoRow.holds Try.pinned (OpenSpec.upto textFeedsSpec)

/-- 'wheelhouselaw24.TextGoes', WHERE WHAT IT READS IS OF BULK AT MOST 1048576: true; the input reads as it did. -/
def textGoesUptoRow : OpenClaim := { program := "ytdgbhbifeohfjaa", sum := "55ad18b88500863bf49411f8d4c28d71d933bfe02373ec00699b610f2ada2f0b", func := "wheelhouse/wheelhouselaw24.TextGoes", spec := "textGoes", apart := false, narrowed := true }
def TextGoesUptoSaid : Prop := textGoesUptoRow.holds Try.pinned (OpenSpec.upto textGoesSpec)

/-- 'wheelhouselaw24.TextNone', WHERE WHAT IT READS IS OF BULK AT MOST 1048576: true; the input reads as it did. -/
def textNoneUptoRow : OpenClaim := { program := "ytdgbhbifeohfjaa", sum := "55ad18b88500863bf49411f8d4c28d71d933bfe02373ec00699b610f2ada2f0b", func := "wheelhouse/wheelhouselaw24.TextNone", spec := "textNone", apart := false, narrowed := true }
def TextNoneUptoSaid : Prop := textNoneUptoRow.holds Try.pinned (OpenSpec.upto textNoneSpec)

/-- 'wheelhouselaw26.EscapeFeeds', WHERE WHAT IT READS IS OF BULK AT MOST 1048576: true; the input reads as it did. -/
def escapeFeedsUptoRow : OpenClaim := { program := "ytdgbhbifeohfjaa", sum := "55ad18b88500863bf49411f8d4c28d71d933bfe02373ec00699b610f2ada2f0b", func := "wheelhouse/wheelhouselaw26.EscapeFeeds", spec := "escapeFeeds", unfollowed := true, recurses := true, apart := false, narrowed := true }
def EscapeFeedsUptoSaid : Prop := escapeFeedsUptoRow.holds Try.pinned (OpenSpec.upto escapeFeedsSpec)

/-- 'wheelhouselaw26.EscapeKeeps', WHERE WHAT IT READS IS OF BULK AT MOST 1048576: true; the input reads as it did. -/
def escapeKeepsUptoRow : OpenClaim := { program := "ytdgbhbifeohfjaa", sum := "55ad18b88500863bf49411f8d4c28d71d933bfe02373ec00699b610f2ada2f0b", func := "wheelhouse/wheelhouselaw26.EscapeKeeps", spec := "escapeKeeps", unfollowed := true, recurses := true, apart := false, narrowed := true }
def EscapeKeepsUptoSaid : Prop := escapeKeepsUptoRow.holds Try.pinned (OpenSpec.upto escapeKeepsSpec)

/-- 'wheelhouselaw26.EscapeNone', WHERE WHAT IT READS IS OF BULK AT MOST 1048576: true; the input reads as it did. -/
def escapeNoneUptoRow : OpenClaim := { program := "ytdgbhbifeohfjaa", sum := "55ad18b88500863bf49411f8d4c28d71d933bfe02373ec00699b610f2ada2f0b", func := "wheelhouse/wheelhouselaw26.EscapeNone", spec := "escapeNone", unfollowed := true, recurses := true, apart := false, narrowed := true }
def EscapeNoneUptoSaid : Prop := escapeNoneUptoRow.holds Try.pinned (OpenSpec.upto escapeNoneSpec)

end Rows
end Go.Proofs.Ytdgbhbifeohfjaa
