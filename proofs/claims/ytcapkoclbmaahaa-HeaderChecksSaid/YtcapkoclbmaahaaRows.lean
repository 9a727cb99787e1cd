/-
  No cell of these rows narrows 'for every input' (looked for: loops, veiled, ifaces, maps, wideKeys, modest, calm, conditions, laid).
  DERIVED. THE GIVEN ROWS OF THIS SEAT. 6 by the template 'for every input the law returns true; each argument reads behind the call as it read before'; 0 by the template 'total and deterministic' (their statements: YtcapkoclbmaahaaTotals.lean).
  GIVEN WITH THE SEED: the statements are not yours to turn. If you find one false, say at which input.
  Laid BY PROGRAM, IN A SANDBOX (cutbox-rows.mjs): the forced cells as the released guide's own fill.sh prints them over the translation 7db14880c11730dc… (all of the seat's roots in one cut). By AI agents, Wed Nov 11 2026. No macro, syntax, notation, axiom, sorry.
-/
import Derived.Test.YtcapkoclbmaahaaChecked
import GoSem.Claim
import GoSem.ClaimJoined
import GoSem.ClaimMapViews
import Derived.JoinedTies
import Derived.KernelRfl
namespace Go.Proofs.Ytcapkoclbmaahaa
/- THE CELL 'sum', in the pinned program and in every row, IS THE sha256 OF THE DUMP (.gsa) THAT YtcapkoclbmaahaaProg.lean LOADS. Nothing in Lean hashes anything: it is a label: what it is worth is what the hold of that sum in a sandbox is worth. -/
noncomputable def Try.pinned : Pinned := { name := "ytcapkoclbmaahaa", sum := "7db14880c11730dc331eab290665f62b8ee055eaf523209df11898a4d805950d", checked := Try.checked }
namespace Rows
def none {H : Type} : Left H := { results := [], args := [] }

/-- 'landfalllaw06.HeaderDecodes': WHATEVER THE INPUT: true; the input reads as it did. -/
def headerDecodesSpec : ChangeSpec := { name := "headerDecodes", fn := fun _ => fun
  | [d] => { results := [.lit (.bool true)], args := [d] }
  | _ => none }
def headerDecodesRow : OpenClaim := { program := "ytcapkoclbmaahaa", sum := "7db14880c11730dc331eab290665f62b8ee055eaf523209df11898a4d805950d", func := "landfall/landfalllaw06.HeaderDecodes", spec := "headerDecodes", unfollowed := true, recurses := true, apart := false }
def HeaderDecodesSaid : Prop := headerDecodesRow.holds Try.pinned (OpenSpec.ofChange headerDecodesSpec)

/-- ITS FALSE NEIGHBOUR: 'it returns false'. Refute it at one input. -/
def headerDecodesWrong : ChangeSpec := { name := "headerDecodes", fn := fun _ => fun
  | [d] => { results := [.lit (.bool false)], args := [d] }
  | _ => none }
def HeaderDecodesWrongFalsely : Prop := headerDecodesRow.holds Try.pinned (OpenSpec.ofChange headerDecodesWrong)

/-- 'landfalllaw06.HeaderKnown': WHATEVER THE INPUT: true; the input reads as it did. -/
def headerKnownSpec : ChangeSpec := { name := "headerKnown", fn := fun _ => fun
  | [] => { results := [.lit (.bool true)], args := [] }
  | _ => none }
def headerKnownRow : OpenClaim := { program := "ytcapkoclbmaahaa", sum := "7db14880c11730dc331eab290665f62b8ee055eaf523209df11898a4d805950d", func := "landfall/landfalllaw06.HeaderKnown", spec := "headerKnown", unfollowed := true, recurses := true, apart := false }
def HeaderKnownSaid : Prop := headerKnownRow.holds Try.pinned (OpenSpec.ofChange headerKnownSpec)

/-- ITS FALSE NEIGHBOUR: 'it returns false'. Refute it at one input. -/
def headerKnownWrong : ChangeSpec := { name := "headerKnown", fn := fun _ => fun
  | [] => { results := [.lit (.bool false)], args := [] }
  | _ => none }
def HeaderKnownWrongFalsely : Prop := headerKnownRow.holds Try.pinned (OpenSpec.ofChange headerKnownWrong)

/-- 'landfalllaw06.HeaderBack': WHATEVER THE INPUT: true; the input reads as it did. -/
def headerBackSpec : ChangeSpec := { name := "headerBack", fn := fun _ => fun
  | [d1, d2, d3] => { results := [.lit (.bool true)], args := [d1, d2, d3] }
  | _ => none }
def headerBackRow : OpenClaim := { program := "ytcapkoclbmaahaa", sum := "7db14880c11730dc331eab290665f62b8ee055eaf523209df11898a4d805950d", func := "landfall/landfalllaw06.HeaderBack", spec := "headerBack", unfollowed := true, recurses := true, apart := false }
def HeaderBackSaid : Prop := headerBackRow.holds Try.pinned (OpenSpec.ofChange headerBackSpec)

/-- ITS FALSE NEIGHBOUR: 'it returns false'. Refute it at one input. -/
def headerBackWrong : ChangeSpec := { name := "headerBack", fn := fun _ => fun
  | [d1, d2, d3] => { results := [.lit (.bool false)], args := [d1, d2, d3] }
  | _ => none }
def HeaderBackWrongFalsely : Prop := headerBackRow.holds Try.pinned (OpenSpec.ofChange headerBackWrong)

/-- 'landfalllaw06.HeaderOne': WHATEVER THE INPUT: true; the input reads as it did. -/
def headerOneSpec : ChangeSpec := { name := "headerOne", fn := fun _ => fun
  | [d] => { results := [.lit (.bool true)], args := [d] }
  | _ => none }
def headerOneRow : OpenClaim := { program := "ytcapkoclbmaahaa", sum := "7db14880c11730dc331eab290665f62b8ee055eaf523209df11898a4d805950d", func := "landfall/landfalllaw06.HeaderOne", spec := "headerOne", unfollowed := true, recurses := true, apart := false }
def HeaderOneSaid : Prop := headerOneRow.holds Try.pinned (OpenSpec.ofChange headerOneSpec)

/-- ITS FALSE NEIGHBOUR: 'it returns false'. Refute it at one input. -/
def headerOneWrong : ChangeSpec := { name := "headerOne", fn := fun _ => fun
  | [d] => { results := [.lit (.bool false)], args := [d] }
  | _ => none }
def HeaderOneWrongFalsely : Prop := headerOneRow.holds Try.pinned (OpenSpec.ofChange headerOneWrong)

/-- 'landfalllaw06.HeaderChecks': WHATEVER THE INPUT: true; the input reads as it did. -/
def headerChecksSpec : ChangeSpec := { name := "headerChecks", fn := fun _ => fun
  | [d] => { results := [.lit (.bool true)], args := [d] }
  | _ => none }
def headerChecksRow : OpenClaim := { program := "ytcapkoclbmaahaa", sum := "7db14880c11730dc331eab290665f62b8ee055eaf523209df11898a4d805950d", func := "landfall/landfalllaw06.HeaderChecks", spec := "headerChecks", inPlace := ["internal/bytealg.IndexByteString", "internal/bytealg.IndexString"], unfollowed := true, recurses := true, named := ["internal/bytealg.MaxLen"], apart := false }
def HeaderChecksSaid : Prop := headerChecksRow.holds Try.pinned (OpenSpec.ofChange headerChecksSpec)

/-- ITS FALSE NEIGHBOUR: 'it returns false'. Refute it at one input. -/
def headerChecksWrong : ChangeSpec := { name := "headerChecks", fn := fun _ => fun
  | [d] => { results := [.lit (.bool false)], args := [d] }
  | _ => none }
def HeaderChecksWrongFalsely : Prop := headerChecksRow.holds Try.pinned (OpenSpec.ofChange headerChecksWrong)

/-- 'landfalllaw06.HeaderHashes': WHATEVER THE INPUT: true; the input reads as it did. -/
def headerHashesSpec : ChangeSpec := { name := "headerHashes", fn := fun _ => fun
  | [d1, d2] => { results := [.lit (.bool true)], args := [d1, d2] }
  | _ => none }
def headerHashesRow : OpenClaim := { program := "ytcapkoclbmaahaa", sum := "7db14880c11730dc331eab290665f62b8ee055eaf523209df11898a4d805950d", func := "landfall/landfalllaw06.HeaderHashes", spec := "headerHashes", inPlace := ["internal/bytealg.IndexByteString", "internal/bytealg.IndexString"], unfollowed := true, recurses := true, named := ["internal/bytealg.MaxLen"], apart := false }
def HeaderHashesSaid : Prop := headerHashesRow.holds Try.pinned (OpenSpec.ofChange headerHashesSpec)

/-- ITS FALSE NEIGHBOUR: 'it returns false'. Refute it at one input. -/
def headerHashesWrong : ChangeSpec := { name := "headerHashes", fn := fun _ => fun
  | [d1, d2] => { results := [.lit (.bool false)], args := [d1, d2] }
  | _ => none }
def HeaderHashesWrongFalsely : Prop := headerHashesRow.holds Try.pinned (OpenSpec.ofChange headerHashesWrong)

/- THE SECOND FORM. 'bulk': how many values and letters a reading holds, each counted each time it is reached (what is shared counts as often as it is met; a slice's spare places count too). A statement '..UptoSaid' is the law's where the arguments, and the package variables that the reading takes, are together of bulk at most 1048576: NARROWER than '..Said'. Prove '..Said' where nothing that the law and all that it calls make is longer than what came in: it says more and counts as full. Else prove '..UptoSaid'. A law counts once. -/
mutual
def uptoBulk {H : Type} : DataW H → Nat
  | .lit (.string bytes) => bytes.length + 1
  | .lit _ => 1
  | .nil => 1
  | .ptr d => uptoBulk d + 1
  | .slice elems spare => uptoBulkAll elems + uptoBulkAll spare + 1
  | .agg parts => uptoBulkAll parts + 1
  | .iface _ d => uptoBulk d + 1
  | .map entries => uptoBulkEntries entries + 1
  | .held _ => 1
def uptoBulkAll {H : Type} : List (DataW H) → Nat
  | [] => 0
  | d :: r => uptoBulk d + uptoBulkAll r
def uptoBulkEntries {H : Type} : List (Lit × DataW H) → Nat
  | [] => 0
  | x :: r => uptoBulkEntry x + uptoBulkEntries r
def uptoBulkEntry {H : Type} : Lit × DataW H → Nat
  | (.string bytes, d) => bytes.length + uptoBulk d + 1
  | (_, d) => uptoBulk d + 1
 end
def uptoSmall : (H : Type) → List (DataW H) → Bool := fun _ ds => decide (uptoBulkAll ds ≤ 1048576)
def OpenSpec.upto (s : _root_.Go.ChangeSpec) : _root_.Go.OpenSpec := { _root_.Go.OpenSpec.ofChange s with cond := some uptoSmall }

/-- 'landfalllaw06.HeaderDecodes', WHERE WHAT IT READS IS OF BULK AT MOST 1048576: true; the input reads as it did. -/
def headerDecodesUptoRow : OpenClaim := { program := "ytcapkoclbmaahaa", sum := "7db14880c11730dc331eab290665f62b8ee055eaf523209df11898a4d805950d", func := "landfall/landfalllaw06.HeaderDecodes", spec := "headerDecodes", unfollowed := true, recurses := true, apart := false, narrowed := true }
def HeaderDecodesUptoSaid : Prop := headerDecodesUptoRow.holds Try.pinned (OpenSpec.upto headerDecodesSpec)

/-- 'landfalllaw06.HeaderKnown', WHERE WHAT IT READS IS OF BULK AT MOST 1048576: true; the input reads as it did. -/
def headerKnownUptoRow : OpenClaim := { program := "ytcapkoclbmaahaa", sum := "7db14880c11730dc331eab290665f62b8ee055eaf523209df11898a4d805950d", func := "landfall/landfalllaw06.HeaderKnown", spec := "headerKnown", unfollowed := true, recurses := true, apart := false, narrowed := true }
def HeaderKnownUptoSaid : Prop := headerKnownUptoRow.holds Try.pinned (OpenSpec.upto headerKnownSpec)

/-- 'landfalllaw06.HeaderBack', WHERE WHAT IT READS IS OF BULK AT MOST 1048576: true; the input reads as it did. -/
def headerBackUptoRow : OpenClaim := { program := "ytcapkoclbmaahaa", sum := "7db14880c11730dc331eab290665f62b8ee055eaf523209df11898a4d805950d", func := "landfall/landfalllaw06.HeaderBack", spec := "headerBack", unfollowed := true, recurses := true, apart := false, narrowed := true }
def HeaderBackUptoSaid : Prop := headerBackUptoRow.holds Try.pinned (OpenSpec.upto headerBackSpec)

/-- 'landfalllaw06.HeaderOne', WHERE WHAT IT READS IS OF BULK AT MOST 1048576: true; the input reads as it did. -/
def headerOneUptoRow : OpenClaim := { program := "ytcapkoclbmaahaa", sum := "7db14880c11730dc331eab290665f62b8ee055eaf523209df11898a4d805950d", func := "landfall/landfalllaw06.HeaderOne", spec := "headerOne", unfollowed := true, recurses := true, apart := false, narrowed := true }
def HeaderOneUptoSaid : Prop := headerOneUptoRow.holds Try.pinned (OpenSpec.upto headerOneSpec)

/-- 'landfalllaw06.HeaderChecks', WHERE WHAT IT READS IS OF BULK AT MOST 1048576: true; the input reads as it did. -/
def headerChecksUptoRow : OpenClaim := { program := "ytcapkoclbmaahaa", sum := "7db14880c11730dc331eab290665f62b8ee055eaf523209df11898a4d805950d", func := "landfall/landfalllaw06.HeaderChecks", spec := "headerChecks", inPlace := ["internal/bytealg.IndexByteString", "internal/bytealg.IndexString"], unfollowed := true, recurses := true, named := ["internal/bytealg.MaxLen"], apart := false, narrowed := true }
def HeaderChecksUptoSaid : Prop := headerChecksUptoRow.holds Try.pinned (OpenSpec.upto headerChecksSpec)

/-- 'landfalllaw06.HeaderHashes', WHERE WHAT IT READS IS OF BULK AT MOST 1048576: true; the input reads as it did. -/
def headerHashesUptoRow : OpenClaim := { program := "ytcapkoclbmaahaa", sum := "7db14880c11730dc331eab290665f62b8ee055eaf523209df11898a4d805950d", func := "landfall/landfalllaw06.HeaderHashes", spec := "headerHashes", inPlace := ["internal/bytealg.IndexByteString", "internal/bytealg.IndexString"], unfollowed := true, recurses := true, named := ["internal/bytealg.MaxLen"], apart := false, narrowed := true }
def HeaderHashesUptoSaid : Prop := headerHashesUptoRow.holds Try.pinned (OpenSpec.upto headerHashesSpec)

end Rows
end Go.Proofs.Ytcapkoclbmaahaa
