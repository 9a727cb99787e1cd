/-
  No cell of these rows narrows 'for every input' (looked for: loops, veiled, ifaces, maps, wideKeys, modest, calm, conditions, laid).
  DERIVED. THE GIVEN ROWS OF THIS SEAT. 6 by the template 'for every input the law returns true; each argument reads behind the call as it read before'; 0 by the template 'total and deterministic' (their statements: YtoadcfjkkoemdaaTotals.lean).
  GIVEN WITH THE SEED: the statements are not yours to turn. If you find one false, say at which input.
  Laid BY PROGRAM, IN A SANDBOX (cutbox-rows.mjs): the forced cells as the released guide's own fill.sh prints them over the translation a3b2ae436d723dab… (all of the seat's roots in one cut). By AI agents, Wed Nov 11 2026. No macro, syntax, notation, axiom, sorry.
-/
import Derived.Test.YtoadcfjkkoemdaaChecked
import GoSem.Claim
import GoSem.ClaimJoined
import GoSem.ClaimMapViews
import Derived.JoinedTies
import Derived.KernelRfl
namespace Go.Proofs.Ytoadcfjkkoemdaa
/- THE CELL 'sum', in the pinned program and in every row, IS THE sha256 OF THE DUMP (.gsa) THAT YtoadcfjkkoemdaaProg.lean LOADS. Nothing in Lean hashes anything: it is a label: what it is worth is what the hold of that sum in a sandbox is worth. -/
noncomputable def Try.pinned : Pinned := { name := "ytoadcfjkkoemdaa", sum := "a3b2ae436d723daba5d42b30091dfe1c38c9c6086069f63100c27265a658a012", checked := Try.checked }
namespace Rows
def none {H : Type} : Left H := { results := [], args := [] }

/-- 'landfalllaw30.MailKnown': WHATEVER THE INPUT: true; the input reads as it did. -/
def mailKnownSpec : ChangeSpec := { name := "mailKnown", fn := fun _ => fun
  | [] => { results := [.lit (.bool true)], args := [] }
  | _ => none }
def mailKnownRow : OpenClaim := { program := "ytoadcfjkkoemdaa", sum := "a3b2ae436d723daba5d42b30091dfe1c38c9c6086069f63100c27265a658a012", func := "landfall/landfalllaw30.MailKnown", spec := "mailKnown", unfollowed := true, recurses := true, apart := false }
def MailKnownSaid : Prop := mailKnownRow.holds Try.pinned (OpenSpec.ofChange mailKnownSpec)

/-- ITS FALSE NEIGHBOUR: 'it returns false'. Refute it at one input. -/
def mailKnownWrong : ChangeSpec := { name := "mailKnown", fn := fun _ => fun
  | [] => { results := [.lit (.bool false)], args := [] }
  | _ => none }
def MailKnownWrongFalsely : Prop := mailKnownRow.holds Try.pinned (OpenSpec.ofChange mailKnownWrong)

/-- 'landfalllaw30.MailLong': WHATEVER THE INPUT: true; the input reads as it did. -/
def mailLongSpec : ChangeSpec := { name := "mailLong", fn := fun _ => fun
  | [d] => { results := [.lit (.bool true)], args := [d] }
  | _ => none }
def mailLongRow : OpenClaim := { program := "ytoadcfjkkoemdaa", sum := "a3b2ae436d723daba5d42b30091dfe1c38c9c6086069f63100c27265a658a012", func := "landfall/landfalllaw30.MailLong", spec := "mailLong", unfollowed := true, recurses := true, apart := false }
def MailLongSaid : Prop := mailLongRow.holds Try.pinned (OpenSpec.ofChange mailLongSpec)

/-- ITS FALSE NEIGHBOUR: 'it returns false'. Refute it at one input. -/
def mailLongWrong : ChangeSpec := { name := "mailLong", fn := fun _ => fun
  | [d] => { results := [.lit (.bool false)], args := [d] }
  | _ => none }
def MailLongWrongFalsely : Prop := mailLongRow.holds Try.pinned (OpenSpec.ofChange mailLongWrong)

/-- 'landfalllaw30.MailActs': WHATEVER THE INPUT: true; the input reads as it did. -/
def mailActsSpec : ChangeSpec := { name := "mailActs", fn := fun _ => fun
  | [d1, d2] => { results := [.lit (.bool true)], args := [d1, d2] }
  | _ => none }
def mailActsRow : OpenClaim := { program := "ytoadcfjkkoemdaa", sum := "a3b2ae436d723daba5d42b30091dfe1c38c9c6086069f63100c27265a658a012", func := "landfall/landfalllaw30.MailActs", spec := "mailActs", unfollowed := true, recurses := true, apart := false }
def MailActsSaid : Prop := mailActsRow.holds Try.pinned (OpenSpec.ofChange mailActsSpec)

/-- ITS FALSE NEIGHBOUR: 'it returns false'. Refute it at one input. -/
def mailActsWrong : ChangeSpec := { name := "mailActs", fn := fun _ => fun
  | [d1, d2] => { results := [.lit (.bool false)], args := [d1, d2] }
  | _ => none }
def MailActsWrongFalsely : Prop := mailActsRow.holds Try.pinned (OpenSpec.ofChange mailActsWrong)

/-- 'landfalllaw30.MailNone': WHATEVER THE INPUT: true; the input reads as it did. -/
def mailNoneSpec : ChangeSpec := { name := "mailNone", fn := fun _ => fun
  | [d1, d2, d3, d4] => { results := [.lit (.bool true)], args := [d1, d2, d3, d4] }
  | _ => none }
def mailNoneRow : OpenClaim := { program := "ytoadcfjkkoemdaa", sum := "a3b2ae436d723daba5d42b30091dfe1c38c9c6086069f63100c27265a658a012", func := "landfall/landfalllaw30.MailNone", spec := "mailNone", unfollowed := true, recurses := true, apart := false }
def MailNoneSaid : Prop := mailNoneRow.holds Try.pinned (OpenSpec.ofChange mailNoneSpec)

/-- ITS FALSE NEIGHBOUR: 'it returns false'. Refute it at one input. -/
def mailNoneWrong : ChangeSpec := { name := "mailNone", fn := fun _ => fun
  | [d1, d2, d3, d4] => { results := [.lit (.bool false)], args := [d1, d2, d3, d4] }
  | _ => none }
def MailNoneWrongFalsely : Prop := mailNoneRow.holds Try.pinned (OpenSpec.ofChange mailNoneWrong)

/-- 'landfalllaw30.MailCounts': WHATEVER THE INPUT: true; the input reads as it did. -/
def mailCountsSpec : ChangeSpec := { name := "mailCounts", fn := fun _ => fun
  | [d] => { results := [.lit (.bool true)], args := [d] }
  | _ => none }
def mailCountsRow : OpenClaim := { program := "ytoadcfjkkoemdaa", sum := "a3b2ae436d723daba5d42b30091dfe1c38c9c6086069f63100c27265a658a012", func := "landfall/landfalllaw30.MailCounts", spec := "mailCounts", unfollowed := true, recurses := true, apart := false }
def MailCountsSaid : Prop := mailCountsRow.holds Try.pinned (OpenSpec.ofChange mailCountsSpec)

/-- ITS FALSE NEIGHBOUR: 'it returns false'. Refute it at one input. -/
def mailCountsWrong : ChangeSpec := { name := "mailCounts", fn := fun _ => fun
  | [d] => { results := [.lit (.bool false)], args := [d] }
  | _ => none }
def MailCountsWrongFalsely : Prop := mailCountsRow.holds Try.pinned (OpenSpec.ofChange mailCountsWrong)

/-- 'landfalllaw30.MailParts': WHATEVER THE INPUT: true; the input reads as it did. -/
def mailPartsSpec : ChangeSpec := { name := "mailParts", fn := fun _ => fun
  | [d1, d2, d3] => { results := [.lit (.bool true)], args := [d1, d2, d3] }
  | _ => none }
def mailPartsRow : OpenClaim := { program := "ytoadcfjkkoemdaa", sum := "a3b2ae436d723daba5d42b30091dfe1c38c9c6086069f63100c27265a658a012", func := "landfall/landfalllaw30.MailParts", spec := "mailParts", unfollowed := true, recurses := true, apart := false }
def MailPartsSaid : Prop := mailPartsRow.holds Try.pinned (OpenSpec.ofChange mailPartsSpec)

/-- ITS FALSE NEIGHBOUR: 'it returns false'. Refute it at one input. -/
def mailPartsWrong : ChangeSpec := { name := "mailParts", fn := fun _ => fun
  | [d1, d2, d3] => { results := [.lit (.bool false)], args := [d1, d2, d3] }
  | _ => none }
def MailPartsWrongFalsely : Prop := mailPartsRow.holds Try.pinned (OpenSpec.ofChange mailPartsWrong)

/- THE SECOND FORM. 'bulk': how many values and letters a reading holds, each counted each time it is reached (what is shared counts as often as it is met; a slice's spare places count too). A statement '..UptoSaid' is the law's where the arguments, and the package variables that the reading takes, are together of bulk at most 1048576: NARROWER than '..Said'. Prove '..Said' where nothing that the law and all that it calls make is longer than what came in: it says more and counts as full. Else prove '..UptoSaid'. A law counts once. -/
mutual
def uptoBulk {H : Type} : DataW H → Nat
  | .lit (.string bytes) => bytes.length + 1
  | .lit _ => 1
  | .nil => 1
  | .ptr d => uptoBulk d + 1
  | .slice elems spare => uptoBulkAll elems + uptoBulkAll spare + 1
  | .agg parts => uptoBulkAll parts + 1
  | .iface _ d => uptoBulk d + 1
  | .map entries => uptoBulkEntries entries + 1
  | .held _ => 1
def uptoBulkAll {H : Type} : List (DataW H) → Nat
  | [] => 0
  | d :: r => uptoBulk d + uptoBulkAll r
def uptoBulkEntries {H : Type} : List (Lit × DataW H) → Nat
  | [] => 0
  | x :: r => uptoBulkEntry x + uptoBulkEntries r
def uptoBulkEntry {H : Type} : Lit × DataW H → Nat
  | (.string bytes, d) => bytes.length + uptoBulk d + 1
  | (_, d) => uptoBulk d + 1
 end
def uptoSmall : (H : Type) → List (DataW H) → Bool := fun _ ds => decide (uptoBulkAll ds ≤ 1048576)
def OpenSpec.upto (s : _root_.Go.ChangeSpec) : _root_.Go.OpenSpec := { _root_.Go.OpenSpec.ofChange s with cond := some uptoSmall }

/-- 'landfalllaw30.MailKnown', WHERE WHAT IT READS IS OF BULK AT MOST 1048576: true; the input reads as it did. -/
def mailKnownUptoRow : OpenClaim := { program := "ytoadcfjkkoemdaa", sum := "a3b2ae436d723daba5d42b30091dfe1c38c9c6086069f63100c27265a658a012", func := "landfall/landfalllaw30.MailKnown", spec := "mailKnown", unfollowed := true, recurses := true, apart := false, narrowed := true }
def MailKnownUptoSaid : Prop := mailKnownUptoRow.holds Try.pinned (OpenSpec.upto mailKnownSpec)

/-- 'landfalllaw30.MailLong', WHERE WHAT IT READS IS OF BULK AT MOST 1048576: true; the input reads as it did. -/
def mailLongUptoRow : OpenClaim := { program := "ytoadcfjkkoemdaa", sum := "a3b2ae436d723daba5d42b30091dfe1c38c9c6086069f63100c27265a658a012", func := "landfall/landfalllaw30.MailLong", spec := "mailLong", unfollowed := true, recurses := true, apart := false, narrowed := true }
def MailLongUptoSaid : Prop := mailLongUptoRow.holds Try.pinned (OpenSpec.upto mailLongSpec)

/-- 'landfalllaw30.MailActs', WHERE WHAT IT READS IS OF BULK AT MOST 1048576: true; the input reads as it did. -/
def mailActsUptoRow : OpenClaim := { program := "ytoadcfjkkoemdaa", sum := "a3b2ae436d723daba5d42b30091dfe1c38c9c6086069f63100c27265a658a012", func := "landfall/landfalllaw30.MailActs", spec := "mailActs", unfollowed := true, recurses := true, apart := false, narrowed := true }
def MailActsUptoSaid : Prop := mailActsUptoRow.holds Try.pinned (OpenSpec.upto mailActsSpec)

/-- 'landfalllaw30.MailNone', WHERE WHAT IT READS IS OF BULK AT MOST 1048576: true; the input reads as it did. -/
def mailNoneUptoRow : OpenClaim := { program := "ytoadcfjkkoemdaa", sum := "a3b2ae436d723daba5d42b30091dfe1c38c9c6086069f63100c27265a658a012", func := "landfall/landfalllaw30.MailNone", spec := "mailNone", unfollowed := true, recurses := true, apart := false, narrowed := true }
def MailNoneUptoSaid : Prop := mailNoneUptoRow.holds Try.pinned (OpenSpec.upto mailNoneSpec)

/-- 'landfalllaw30.MailCounts', WHERE WHAT IT READS IS OF BULK AT MOST 1048576: true; the input reads as it did. -/
def mailCountsUptoRow : OpenClaim := { program := "ytoadcfjkkoemdaa", sum := "a3b2ae436d723daba5d42b30091dfe1c38c9c6086069f63100c27265a658a012", func := "landfall/landfalllaw30.MailCounts", spec := "mailCounts", unfollowed := true, recurses := true, apart := false, narrowed := true }
def MailCountsUptoSaid : Prop := mailCountsUptoRow.holds Try.pinned (OpenSpec.upto mailCountsSpec)

/-- 'landfalllaw30.MailParts', WHERE WHAT IT READS IS OF BULK AT MOST 1048576: true; the input reads as it did. -/
def mailPartsUptoRow : OpenClaim := { program := "ytoadcfjkkoemdaa", sum := "a3b2ae436d723daba5d42b30091dfe1c38c9c6086069f63100c27265a658a012", func := "landfall/landfalllaw30.MailParts", spec := "mailParts", unfollowed := true, recurses := true, apart := false, narrowed := true }
def MailPartsUptoSaid : Prop := mailPartsUptoRow.holds Try.pinned (OpenSpec.upto mailPartsSpec)

end Rows
end Go.Proofs.Ytoadcfjkkoemdaa
