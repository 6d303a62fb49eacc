/-
  No cell of these rows narrows 'for every input' (looked for: loops, veiled, ifaces, maps, wideKeys, modest, calm, conditions, laid).
  DERIVED. THE GIVEN ROWS OF THIS SEAT. 6 by the template 'for every input the law returns true; each argument reads behind the call as it read before'; 0 by the template 'total and deterministic' (their statements: YtiindnmelegkgaaTotals.lean).
  GIVEN WITH THE SEED: the statements are not yours to turn. If you find one false, say at which input.
  Laid BY PROGRAM, IN A SANDBOX (cutbox-rows.mjs): the forced cells as the released guide's own fill.sh prints them over the translation 6cf95c81497ef1c4… (all of the seat's roots in one cut). By AI agents, Wed Nov 11 2026. No macro, syntax, notation, axiom, sorry.
-/
import Derived.Test.YtiindnmelegkgaaChecked
import GoSem.Claim
import GoSem.ClaimJoined
import GoSem.ClaimMapViews
import Derived.JoinedTies
import Derived.KernelRfl
namespace Go.Proofs.Ytiindnmelegkgaa
/- THE CELL 'sum', in the pinned program and in every row, IS THE sha256 OF THE DUMP (.gsa) THAT YtiindnmelegkgaaProg.lean LOADS. Nothing in Lean hashes anything: it is a label: what it is worth is what the hold of that sum in a sandbox is worth. -/
noncomputable def Try.pinned : Pinned := { name := "ytiindnmelegkgaa", sum := "6cf95c81497ef1c478f46aaa7c26045baec647deb62d12feeabf8ebbe2bd816a", checked := Try.checked }
namespace Rows
def none {H : Type} : Left H := { results := [], args := [] }

/-- 'watchwordlaw48.NetworkFills': WHATEVER THE INPUT: true; the input reads as it did. -/
def networkFillsSpec : ChangeSpec := { name := "networkFills", fn := fun _ => fun
  | [d1, d2] => { results := [.lit (.bool true)], args := [d1, d2] }
  | _ => none }
def networkFillsRow : OpenClaim := { program := "ytiindnmelegkgaa", sum := "6cf95c81497ef1c478f46aaa7c26045baec647deb62d12feeabf8ebbe2bd816a", func := "watchword/watchwordlaw48.NetworkFills", spec := "networkFills", unfollowed := true, recurses := true, plainKeys := false, apart := false }
def NetworkFillsSaid : Prop := networkFillsRow.holds Try.pinned (OpenSpec.ofChange networkFillsSpec)

/-- ITS FALSE NEIGHBOUR: 'it returns false'. Refute it at one input. -/
def networkFillsWrong : ChangeSpec := { name := "networkFills", fn := fun _ => fun
  | [d1, d2] => { results := [.lit (.bool false)], args := [d1, d2] }
  | _ => none }
def NetworkFillsWrongFalsely : Prop := networkFillsRow.holds Try.pinned (OpenSpec.ofChange networkFillsWrong)

/-- 'watchwordlaw48.NetworkConserves': WHATEVER THE INPUT: true; the input reads as it did. -/
def networkConservesSpec : ChangeSpec := { name := "networkConserves", fn := fun _ => fun
  | [d] => { results := [.lit (.bool true)], args := [d] }
  | _ => none }
def networkConservesRow : OpenClaim := { program := "ytiindnmelegkgaa", sum := "6cf95c81497ef1c478f46aaa7c26045baec647deb62d12feeabf8ebbe2bd816a", func := "watchword/watchwordlaw48.NetworkConserves", spec := "networkConserves", unfollowed := true, recurses := true, plainKeys := false, apart := false }
def NetworkConservesSaid : Prop := networkConservesRow.holds Try.pinned (OpenSpec.ofChange networkConservesSpec)

/-- ITS FALSE NEIGHBOUR: 'it returns false'. Refute it at one input. -/
def networkConservesWrong : ChangeSpec := { name := "networkConserves", fn := fun _ => fun
  | [d] => { results := [.lit (.bool false)], args := [d] }
  | _ => none }
def NetworkConservesWrongFalsely : Prop := networkConservesRow.holds Try.pinned (OpenSpec.ofChange networkConservesWrong)

/-- 'watchwordlaw48.NetworkPlays': WHATEVER THE INPUT: true; the input reads as it did. -/
def networkPlaysSpec : ChangeSpec := { name := "networkPlays", fn := fun _ => fun
  | [d] => { results := [.lit (.bool true)], args := [d] }
  | _ => none }
def networkPlaysRow : OpenClaim := { program := "ytiindnmelegkgaa", sum := "6cf95c81497ef1c478f46aaa7c26045baec647deb62d12feeabf8ebbe2bd816a", func := "watchword/watchwordlaw48.NetworkPlays", spec := "networkPlays", inPlace := ["maps.clone"], unfollowed := true, recurses := true, plainKeys := false, apart := false }
def NetworkPlaysSaid : Prop := networkPlaysRow.holds Try.pinned (OpenSpec.ofChange networkPlaysSpec)

/-- ITS FALSE NEIGHBOUR: 'it returns false'. Refute it at one input. -/
def networkPlaysWrong : ChangeSpec := { name := "networkPlays", fn := fun _ => fun
  | [d] => { results := [.lit (.bool false)], args := [d] }
  | _ => none }
def NetworkPlaysWrongFalsely : Prop := networkPlaysRow.holds Try.pinned (OpenSpec.ofChange networkPlaysWrong)

/-- 'watchwordlaw48.NetworkFinds': WHATEVER THE INPUT: true; the input reads as it did. -/
def networkFindsSpec : ChangeSpec := { name := "networkFinds", fn := fun _ => fun
  | [d1, d2] => { results := [.lit (.bool true)], args := [d1, d2] }
  | _ => none }
def networkFindsRow : OpenClaim := { program := "ytiindnmelegkgaa", sum := "6cf95c81497ef1c478f46aaa7c26045baec647deb62d12feeabf8ebbe2bd816a", func := "watchword/watchwordlaw48.NetworkFinds", spec := "networkFinds", inPlace := ["maps.clone"], unfollowed := true, recurses := true, plainKeys := false, apart := false }
def NetworkFindsSaid : Prop := networkFindsRow.holds Try.pinned (OpenSpec.ofChange networkFindsSpec)

/-- ITS FALSE NEIGHBOUR: 'it returns false'. Refute it at one input. -/
def networkFindsWrong : ChangeSpec := { name := "networkFinds", fn := fun _ => fun
  | [d1, d2] => { results := [.lit (.bool false)], args := [d1, d2] }
  | _ => none }
def NetworkFindsWrongFalsely : Prop := networkFindsRow.holds Try.pinned (OpenSpec.ofChange networkFindsWrong)

/-- 'watchwordlaw48.NetworkLoops': WHATEVER THE INPUT: true; the input reads as it did. -/
def networkLoopsSpec : ChangeSpec := { name := "networkLoops", fn := fun _ => fun
  | [d1, d2, d3] => { results := [.lit (.bool true)], args := [d1, d2, d3] }
  | _ => none }
def networkLoopsRow : OpenClaim := { program := "ytiindnmelegkgaa", sum := "6cf95c81497ef1c478f46aaa7c26045baec647deb62d12feeabf8ebbe2bd816a", func := "watchword/watchwordlaw48.NetworkLoops", spec := "networkLoops", inPlace := ["maps.clone"], unfollowed := true, recurses := true, plainKeys := false, apart := false }
def NetworkLoopsSaid : Prop := networkLoopsRow.holds Try.pinned (OpenSpec.ofChange networkLoopsSpec)

/-- ITS FALSE NEIGHBOUR: 'it returns false'. Refute it at one input. -/
def networkLoopsWrong : ChangeSpec := { name := "networkLoops", fn := fun _ => fun
  | [d1, d2, d3] => { results := [.lit (.bool false)], args := [d1, d2, d3] }
  | _ => none }
def NetworkLoopsWrongFalsely : Prop := networkLoopsRow.holds Try.pinned (OpenSpec.ofChange networkLoopsWrong)

/-- 'watchwordlaw48.NetworkNone': WHATEVER THE INPUT: true; the input reads as it did. -/
def networkNoneSpec : ChangeSpec := { name := "networkNone", fn := fun _ => fun
  | [d] => { results := [.lit (.bool true)], args := [d] }
  | _ => none }
def networkNoneRow : OpenClaim := { program := "ytiindnmelegkgaa", sum := "6cf95c81497ef1c478f46aaa7c26045baec647deb62d12feeabf8ebbe2bd816a", func := "watchword/watchwordlaw48.NetworkNone", spec := "networkNone", inPlace := ["maps.clone"], unfollowed := true, recurses := true, plainKeys := false, apart := false }
def NetworkNoneSaid : Prop := networkNoneRow.holds Try.pinned (OpenSpec.ofChange networkNoneSpec)

/-- ITS FALSE NEIGHBOUR: 'it returns false'. Refute it at one input. -/
def networkNoneWrong : ChangeSpec := { name := "networkNone", fn := fun _ => fun
  | [d] => { results := [.lit (.bool false)], args := [d] }
  | _ => none }
def NetworkNoneWrongFalsely : Prop := networkNoneRow.holds Try.pinned (OpenSpec.ofChange networkNoneWrong)

/- THE SECOND FORM. 'bulk': how many values and letters a reading holds, each counted each time it is reached (what is shared counts as often as it is met; a slice's spare places count too). A statement '..UptoSaid' is the law's where the arguments, and the package variables that the reading takes, are together of bulk at most 1048576: NARROWER than '..Said'. Prove '..Said' where nothing that the law and all that it calls make is longer than what came in: it says more and counts as full. Else prove '..UptoSaid'. A law counts once. -/
mutual
def uptoBulk {H : Type} : DataW H → Nat
  | .lit (.string bytes) => bytes.length + 1
  | .lit _ => 1
  | .nil => 1
  | .ptr d => uptoBulk d + 1
  | .slice elems spare => uptoBulkAll elems + uptoBulkAll spare + 1
  | .agg parts => uptoBulkAll parts + 1
  | .iface _ d => uptoBulk d + 1
  | .map entries => uptoBulkEntries entries + 1
  | .held _ => 1
def uptoBulkAll {H : Type} : List (DataW H) → Nat
  | [] => 0
  | d :: r => uptoBulk d + uptoBulkAll r
def uptoBulkEntries {H : Type} : List (Lit × DataW H) → Nat
  | [] => 0
  | x :: r => uptoBulkEntry x + uptoBulkEntries r
def uptoBulkEntry {H : Type} : Lit × DataW H → Nat
  | (.string bytes, d) => bytes.length + uptoBulk d + 1
  | (_, d) => uptoBulk d + 1
 end
def uptoSmall : (H : Type) → List (DataW H) → Bool := fun _ ds => decide (uptoBulkAll ds ≤ 1048576)
def OpenSpec.upto (s : _root_.Go.ChangeSpec) : _root_.Go.OpenSpec := { _root_.Go.OpenSpec.ofChange s with cond := some uptoSmall }

/-- 'watchwordlaw48.NetworkFills', WHERE WHAT IT READS IS OF BULK AT MOST 1048576: true; the input reads as it did. -/
def networkFillsUptoRow : OpenClaim := { program := "ytiindnmelegkgaa", sum := "6cf95c81497ef1c478f46aaa7c26045baec647deb62d12feeabf8ebbe2bd816a", func := "watchword/watchwordlaw48.NetworkFills", spec := "networkFills", unfollowed := true, recurses := true, plainKeys := false, apart := false, narrowed := true }
def NetworkFillsUptoSaid : Prop := networkFillsUptoRow.holds Try.pinned (OpenSpec.upto networkFillsSpec)

/-- 'watchwordlaw48.NetworkConserves', WHERE WHAT IT READS IS OF BULK AT MOST 1048576: true; the input reads as it did. -/
def networkConservesUptoRow : OpenClaim := { program := "ytiindnmelegkgaa", sum := "6cf95c81497ef1c478f46aaa7c26045baec647deb62d12feeabf8ebbe2bd816a", func := "watchword/watchwordlaw48.NetworkConserves", spec := "networkConserves", unfollowed := true, recurses := true, plainKeys := false, apart := false, narrowed := true }
def NetworkConservesUptoSaid : Prop := networkConservesUptoRow.holds Try.pinned (OpenSpec.upto networkConservesSpec)

/-- 'watchwordlaw48.NetworkPlays', WHERE WHAT IT READS IS OF BULK AT MOST 1048576: true; the input reads as it did. -/
def networkPlaysUptoRow : OpenClaim := { program := "ytiindnmelegkgaa", sum := "6cf95c81497ef1c478f46aaa7c26045baec647deb62d12feeabf8ebbe2bd816a", func := "watchword/watchwordlaw48.NetworkPlays", spec := "networkPlays", inPlace := ["maps.clone"], unfollowed := true, recurses := true, plainKeys := false, apart := false, narrowed := true }
def NetworkPlaysUptoSaid : Prop := networkPlaysUptoRow.holds Try.pinned (OpenSpec.upto networkPlaysSpec)

/-- 'watchwordlaw48.NetworkFinds', WHERE WHAT IT READS IS OF BULK AT MOST 1048576: true; the input reads as it did. -/
def networkFindsUptoRow : OpenClaim := { program := "ytiindnmelegkgaa", sum := "6cf95c81497ef1c478f46aaa7c26045baec647deb62d12feeabf8ebbe2bd816a", func := "watchword/watchwordlaw48.NetworkFinds", spec := "networkFinds", inPlace := ["maps.clone"], unfollowed := true, recurses := true, plainKeys := false, apart := false, narrowed := true }
def NetworkFindsUptoSaid : Prop := networkFindsUptoRow.holds Try.pinned (OpenSpec.upto networkFindsSpec)

/-- 'watchwordlaw48.NetworkLoops', WHERE WHAT IT READS IS OF BULK AT MOST 1048576: true; the input reads as it did. -/
def networkLoopsUptoRow : OpenClaim := { program := "ytiindnmelegkgaa", sum := "6cf95c81497ef1c478f46aaa7c26045baec647deb62d12feeabf8ebbe2bd816a", func := "watchword/watchwordlaw48.NetworkLoops", spec := "networkLoops", inPlace := ["maps.clone"], unfollowed := true, recurses := true, plainKeys := false, apart := false, narrowed := true }
def NetworkLoopsUptoSaid : Prop := networkLoopsUptoRow.holds Try.pinned (OpenSpec.upto networkLoopsSpec)

/-- 'watchwordlaw48.NetworkNone', WHERE WHAT IT READS IS OF BULK AT MOST 1048576: true; the input reads as it did. -/
def networkNoneUptoRow : OpenClaim := { program := "ytiindnmelegkgaa", sum := "6cf95c81497ef1c478f46aaa7c26045baec647deb62d12feeabf8ebbe2bd816a", func := "watchword/watchwordlaw48.NetworkNone", spec := "networkNone", inPlace := ["maps.clone"], unfollowed := true, recurses := true, plainKeys := false, apart := false, narrowed := true }
def NetworkNoneUptoSaid : Prop := networkNoneUptoRow.holds Try.pinned (OpenSpec.upto networkNoneSpec)

end Rows
end Go.Proofs.Ytiindnmelegkgaa
