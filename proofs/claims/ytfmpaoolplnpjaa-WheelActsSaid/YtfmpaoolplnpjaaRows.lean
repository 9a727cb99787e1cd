/-
  No cell of these rows narrows 'for every input' (looked for: loops, veiled, ifaces, maps, wideKeys, modest, calm, conditions, laid).
  DERIVED. THE GIVEN ROWS OF THIS SEAT. 5 by the template 'for every input the law returns true; each argument reads behind the call as it read before'; 0 by the template 'total and deterministic' (their statements: YtfmpaoolplnpjaaTotals.lean).
  GIVEN WITH THE SEED: the statements are not yours to turn. If you find one false, say at which input.
  Laid BY PROGRAM, IN A SANDBOX (cutbox-rows.mjs): the forced cells as the released guide's own fill.sh prints them over the translation 207db83d42e22ab9… (all of the seat's roots in one cut). By AI agents, Wed Nov 11 2026. No macro, syntax, notation, axiom, sorry.
-/
import Derived.Test.YtfmpaoolplnpjaaChecked
import GoSem.Claim
import GoSem.ClaimJoined
import GoSem.ClaimMapViews
import Derived.JoinedTies
import Derived.KernelRfl
namespace Go.Proofs.Ytfmpaoolplnpjaa
/- THE CELL 'sum', in the pinned program and in every row, IS THE sha256 OF THE DUMP (.gsa) THAT YtfmpaoolplnpjaaProg.lean LOADS. Nothing in Lean hashes anything: it is a label: what it is worth is what the hold of that sum in a sandbox is worth. -/
noncomputable def Try.pinned : Pinned := { name := "ytfmpaoolplnpjaa", sum := "207db83d42e22ab9cd372edd095faa6603ada8f8b298e52a8c2c7b54a0b2a81f", checked := Try.checked }
namespace Rows
def none {H : Type} : Left H := { results := [], args := [] }

/-- 'landfalllaw18.WheelKnown': WHATEVER THE INPUT: true; the input reads as it did. -/
def wheelKnownSpec : ChangeSpec := { name := "wheelKnown", fn := fun _ => fun
  | [] => { results := [.lit (.bool true)], args := [] }
  | _ => none }
def wheelKnownRow : OpenClaim := { program := "ytfmpaoolplnpjaa", sum := "207db83d42e22ab9cd372edd095faa6603ada8f8b298e52a8c2c7b54a0b2a81f", func := "landfall/landfalllaw18.WheelKnown", spec := "wheelKnown", unfollowed := true, recurses := true, apart := false }
def WheelKnownSaid : Prop := wheelKnownRow.holds Try.pinned (OpenSpec.ofChange wheelKnownSpec)

/-- ITS FALSE NEIGHBOUR: 'it returns false'. Refute it at one input. -/
def wheelKnownWrong : ChangeSpec := { name := "wheelKnown", fn := fun _ => fun
  | [] => { results := [.lit (.bool false)], args := [] }
  | _ => none }
def WheelKnownWrongFalsely : Prop := wheelKnownRow.holds Try.pinned (OpenSpec.ofChange wheelKnownWrong)

/-- 'landfalllaw18.WheelParts': WHATEVER THE INPUT: true; the input reads as it did. -/
def wheelPartsSpec : ChangeSpec := { name := "wheelParts", fn := fun _ => fun
  | [d1, d2, d3, d4, d5] => { results := [.lit (.bool true)], args := [d1, d2, d3, d4, d5] }
  | _ => none }
def wheelPartsRow : OpenClaim := { program := "ytfmpaoolplnpjaa", sum := "207db83d42e22ab9cd372edd095faa6603ada8f8b298e52a8c2c7b54a0b2a81f", func := "landfall/landfalllaw18.WheelParts", spec := "wheelParts", unfollowed := true, recurses := true, apart := false }
def WheelPartsSaid : Prop := wheelPartsRow.holds Try.pinned (OpenSpec.ofChange wheelPartsSpec)

/-- ITS FALSE NEIGHBOUR: 'it returns false'. Refute it at one input. -/
def wheelPartsWrong : ChangeSpec := { name := "wheelParts", fn := fun _ => fun
  | [d1, d2, d3, d4, d5] => { results := [.lit (.bool false)], args := [d1, d2, d3, d4, d5] }
  | _ => none }
def WheelPartsWrongFalsely : Prop := wheelPartsRow.holds Try.pinned (OpenSpec.ofChange wheelPartsWrong)

/-- 'landfalllaw18.WheelActs': WHATEVER THE INPUT: true; the input reads as it did. -/
def wheelActsSpec : ChangeSpec := { name := "wheelActs", fn := fun _ => fun
  | [d1, d2] => { results := [.lit (.bool true)], args := [d1, d2] }
  | _ => none }
def wheelActsRow : OpenClaim := { program := "ytfmpaoolplnpjaa", sum := "207db83d42e22ab9cd372edd095faa6603ada8f8b298e52a8c2c7b54a0b2a81f", func := "landfall/landfalllaw18.WheelActs", spec := "wheelActs", unfollowed := true, recurses := true, apart := false }
def WheelActsSaid : Prop := wheelActsRow.holds Try.pinned (OpenSpec.ofChange wheelActsSpec)

/-- ITS FALSE NEIGHBOUR: 'it returns false'. Refute it at one input. -/
def wheelActsWrong : ChangeSpec := { name := "wheelActs", fn := fun _ => fun
  | [d1, d2] => { results := [.lit (.bool false)], args := [d1, d2] }
  | _ => none }
def WheelActsWrongFalsely : Prop := wheelActsRow.holds Try.pinned (OpenSpec.ofChange wheelActsWrong)

/-- 'landfalllaw18.WheelNone': WHATEVER THE INPUT: true; the input reads as it did. -/
def wheelNoneSpec : ChangeSpec := { name := "wheelNone", fn := fun _ => fun
  | [d1, d2] => { results := [.lit (.bool true)], args := [d1, d2] }
  | _ => none }
def wheelNoneRow : OpenClaim := { program := "ytfmpaoolplnpjaa", sum := "207db83d42e22ab9cd372edd095faa6603ada8f8b298e52a8c2c7b54a0b2a81f", func := "landfall/landfalllaw18.WheelNone", spec := "wheelNone", unfollowed := true, recurses := true, apart := false }
def WheelNoneSaid : Prop := wheelNoneRow.holds Try.pinned (OpenSpec.ofChange wheelNoneSpec)

/-- ITS FALSE NEIGHBOUR: 'it returns false'. Refute it at one input. -/
def wheelNoneWrong : ChangeSpec := { name := "wheelNone", fn := fun _ => fun
  | [d1, d2] => { results := [.lit (.bool false)], args := [d1, d2] }
  | _ => none }
def WheelNoneWrongFalsely : Prop := wheelNoneRow.holds Try.pinned (OpenSpec.ofChange wheelNoneWrong)

/-- 'landfalllaw18.WheelSlots': WHATEVER THE INPUT: true; the input reads as it did. -/
def wheelSlotsSpec : ChangeSpec := { name := "wheelSlots", fn := fun _ => fun
  | [d1, d2] => { results := [.lit (.bool true)], args := [d1, d2] }
  | _ => none }
def wheelSlotsRow : OpenClaim := { program := "ytfmpaoolplnpjaa", sum := "207db83d42e22ab9cd372edd095faa6603ada8f8b298e52a8c2c7b54a0b2a81f", func := "landfall/landfalllaw18.WheelSlots", spec := "wheelSlots", unfollowed := true, recurses := true, apart := false }
def WheelSlotsSaid : Prop := wheelSlotsRow.holds Try.pinned (OpenSpec.ofChange wheelSlotsSpec)

/-- ITS FALSE NEIGHBOUR: 'it returns false'. Refute it at one input. -/
def wheelSlotsWrong : ChangeSpec := { name := "wheelSlots", fn := fun _ => fun
  | [d1, d2] => { results := [.lit (.bool false)], args := [d1, d2] }
  | _ => none }
def WheelSlotsWrongFalsely : Prop := wheelSlotsRow.holds Try.pinned (OpenSpec.ofChange wheelSlotsWrong)

/- THE SECOND FORM. 'bulk': how many values and letters a reading holds, each counted each time it is reached (what is shared counts as often as it is met; a slice's spare places count too). A statement '..UptoSaid' is the law's where the arguments, and the package variables that the reading takes, are together of bulk at most 1048576: NARROWER than '..Said'. Prove '..Said' where nothing that the law and all that it calls make is longer than what came in: it says more and counts as full. Else prove '..UptoSaid'. A law counts once. -/
mutual
def uptoBulk {H : Type} : DataW H → Nat
  | .lit (.string bytes) => bytes.length + 1
  | .lit _ => 1
  | .nil => 1
  | .ptr d => uptoBulk d + 1
  | .slice elems spare => uptoBulkAll elems + uptoBulkAll spare + 1
  | .agg parts => uptoBulkAll parts + 1
  | .iface _ d => uptoBulk d + 1
  | .map entries => uptoBulkEntries entries + 1
  | .held _ => 1
def uptoBulkAll {H : Type} : List (DataW H) → Nat
  | [] => 0
  | d :: r => uptoBulk d + uptoBulkAll r
def uptoBulkEntries {H : Type} : List (Lit × DataW H) → Nat
  | [] => 0
  | x :: r => uptoBulkEntry x + uptoBulkEntries r
def uptoBulkEntry {H : Type} : Lit × DataW H → Nat
  | (.string bytes, d) => bytes.length + uptoBulk d + 1
  | (_, d) => uptoBulk d + 1
 end
def uptoSmall : (H : Type) → List (DataW H) → Bool := fun _ ds => decide (uptoBulkAll ds ≤ 1048576)
def OpenSpec.upto (s : _root_.Go.ChangeSpec) : _root_.Go.OpenSpec := { _root_.Go.OpenSpec.ofChange s with cond := some uptoSmall }

/-- 'landfalllaw18.WheelKnown', WHERE WHAT IT READS IS OF BULK AT MOST 1048576: true; the input reads as it did. -/
def wheelKnownUptoRow : OpenClaim := { program := "ytfmpaoolplnpjaa", sum := "207db83d42e22ab9cd372edd095faa6603ada8f8b298e52a8c2c7b54a0b2a81f", func := "landfall/landfalllaw18.WheelKnown", spec := "wheelKnown", unfollowed := true, recurses := true, apart := false, narrowed := true }
def WheelKnownUptoSaid : Prop := wheelKnownUptoRow.holds Try.pinned (OpenSpec.upto wheelKnownSpec)

/-- 'landfalllaw18.WheelParts', WHERE WHAT IT READS IS OF BULK AT MOST 1048576: true; the input reads as it did. -/
def wheelPartsUptoRow : OpenClaim := { program := "ytfmpaoolplnpjaa", sum := "207db83d42e22ab9cd372edd095faa6603ada8f8b298e52a8c2c7b54a0b2a81f", func := "landfall/landfalllaw18.WheelParts", spec := "wheelParts", unfollowed := true, recurses := true, apart := false, narrowed := true }
def WheelPartsUptoSaid : Prop := wheelPartsUptoRow.holds Try.pinned (OpenSpec.upto wheelPartsSpec)

/-- 'landfalllaw18.WheelActs', WHERE WHAT IT READS IS OF BULK AT MOST 1048576: true; the input reads as it did. -/
def wheelActsUptoRow : OpenClaim := { program := "ytfmpaoolplnpjaa", sum := "207db83d42e22ab9cd372edd095faa6603ada8f8b298e52a8c2c7b54a0b2a81f", func := "landfall/landfalllaw18.WheelActs", spec := "wheelActs", unfollowed := true, recurses := true, apart := false, narrowed := true }
def WheelActsUptoSaid : Prop := wheelActsUptoRow.holds Try.pinned (OpenSpec.upto wheelActsSpec)

/-- 'landfalllaw18.WheelNone', WHERE WHAT IT READS IS OF BULK AT MOST 1048576: true; the input reads as it did. -/
def wheelNoneUptoRow : OpenClaim := { program := "ytfmpaoolplnpjaa", sum := "207db83d42e22ab9cd372edd095faa6603ada8f8b298e52a8c2c7b54a0b2a81f", func := "landfall/landfalllaw18.WheelNone", spec := "wheelNone", unfollowed := true, recurses := true, apart := false, narrowed := true }
def WheelNoneUptoSaid : Prop := wheelNoneUptoRow.holds Try.pinned (OpenSpec.upto wheelNoneSpec)

/-- 'landfalllaw18.WheelSlots', WHERE WHAT IT READS IS OF BULK AT MOST 1048576: true; the input reads as it did. -/
def wheelSlotsUptoRow : OpenClaim := { program := "ytfmpaoolplnpjaa", sum := "207db83d42e22ab9cd372edd095faa6603ada8f8b298e52a8c2c7b54a0b2a81f", func := "landfall/landfalllaw18.WheelSlots", spec := "wheelSlots", unfollowed := true, recurses := true, apart := false, narrowed := true }
def WheelSlotsUptoSaid : Prop := wheelSlotsUptoRow.holds Try.pinned (OpenSpec.upto wheelSlotsSpec)

end Rows
end Go.Proofs.Ytfmpaoolplnpjaa
