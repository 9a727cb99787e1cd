/-
  No cell of these rows narrows 'for every input' (looked for: loops, veiled, ifaces, maps, wideKeys, modest, calm, conditions, laid).
  DERIVED. THE GIVEN ROWS OF THIS SEAT. 6 by the template 'for every input the law returns true; each argument reads behind the call as it read before'; 0 by the template 'total and deterministic' (their statements: YtmfaepkmiceoeaaTotals.lean).
  GIVEN WITH THE SEED: the statements are not yours to turn. If you find one false, say at which input.
  Laid BY PROGRAM, IN A SANDBOX (cutbox-rows.mjs): the forced cells as the released guide's own fill.sh prints them over the translation 074243b3f09329dd… (all of the seat's roots in one cut). By AI agents, Wed Nov 11 2026. No macro, syntax, notation, axiom, sorry.
-/
import Derived.Test.YtmfaepkmiceoeaaChecked
import GoSem.Claim
import GoSem.ClaimJoined
import GoSem.ClaimMapViews
import Derived.JoinedTies
import Derived.KernelRfl
namespace Go.Proofs.Ytmfaepkmiceoeaa
/- THE CELL 'sum', in the pinned program and in every row, IS THE sha256 OF THE DUMP (.gsa) THAT YtmfaepkmiceoeaaProg.lean LOADS. Nothing in Lean hashes anything: it is a label: what it is worth is what the hold of that sum in a sandbox is worth. -/
noncomputable def Try.pinned : Pinned := { name := "ytmfaepkmiceoeaa", sum := "074243b3f09329ddf297fcb6aae31e8331c4f5f523cb5ec13cb53710d5710739", checked := Try.checked }
namespace Rows
def none {H : Type} : Left H := { results := [], args := [] }

/-- 'landfalllaw05.ValsDecodes': WHATEVER THE INPUT: true; the input reads as it did. -/
def valsDecodesSpec : ChangeSpec := { name := "valsDecodes", fn := fun _ => fun
  | [d] => { results := [.lit (.bool true)], args := [d] }
  | _ => none }
def valsDecodesRow : OpenClaim := { program := "ytmfaepkmiceoeaa", sum := "074243b3f09329ddf297fcb6aae31e8331c4f5f523cb5ec13cb53710d5710739", func := "landfall/landfalllaw05.ValsDecodes", spec := "valsDecodes", inPlace := ["internal/bytealg.Compare"], unfollowed := true, recurses := true, apart := false }
def ValsDecodesSaid : Prop := valsDecodesRow.holds Try.pinned (OpenSpec.ofChange valsDecodesSpec)

/-- ITS FALSE NEIGHBOUR: 'it returns false'. Refute it at one input. -/
def valsDecodesWrong : ChangeSpec := { name := "valsDecodes", fn := fun _ => fun
  | [d] => { results := [.lit (.bool false)], args := [d] }
  | _ => none }
def ValsDecodesWrongFalsely : Prop := valsDecodesRow.holds Try.pinned (OpenSpec.ofChange valsDecodesWrong)

/-- 'landfalllaw05.ValsChanges': WHATEVER THE INPUT: true; the input reads as it did. -/
def valsChangesSpec : ChangeSpec := { name := "valsChanges", fn := fun _ => fun
  | [d1, d2] => { results := [.lit (.bool true)], args := [d1, d2] }
  | _ => none }
def valsChangesRow : OpenClaim := { program := "ytmfaepkmiceoeaa", sum := "074243b3f09329ddf297fcb6aae31e8331c4f5f523cb5ec13cb53710d5710739", func := "landfall/landfalllaw05.ValsChanges", spec := "valsChanges", inPlace := ["internal/bytealg.Compare"], unfollowed := true, recurses := true, apart := false }
def ValsChangesSaid : Prop := valsChangesRow.holds Try.pinned (OpenSpec.ofChange valsChangesSpec)

/-- ITS FALSE NEIGHBOUR: 'it returns false'. Refute it at one input. -/
def valsChangesWrong : ChangeSpec := { name := "valsChanges", fn := fun _ => fun
  | [d1, d2] => { results := [.lit (.bool false)], args := [d1, d2] }
  | _ => none }
def ValsChangesWrongFalsely : Prop := valsChangesRow.holds Try.pinned (OpenSpec.ofChange valsChangesWrong)

/-- 'landfalllaw05.ValsKnown': WHATEVER THE INPUT: true; the input reads as it did. -/
def valsKnownSpec : ChangeSpec := { name := "valsKnown", fn := fun _ => fun
  | [] => { results := [.lit (.bool true)], args := [] }
  | _ => none }
def valsKnownRow : OpenClaim := { program := "ytmfaepkmiceoeaa", sum := "074243b3f09329ddf297fcb6aae31e8331c4f5f523cb5ec13cb53710d5710739", func := "landfall/landfalllaw05.ValsKnown", spec := "valsKnown", inPlace := ["internal/bytealg.Compare"], unfollowed := true, recurses := true, apart := false }
def ValsKnownSaid : Prop := valsKnownRow.holds Try.pinned (OpenSpec.ofChange valsKnownSpec)

/-- ITS FALSE NEIGHBOUR: 'it returns false'. Refute it at one input. -/
def valsKnownWrong : ChangeSpec := { name := "valsKnown", fn := fun _ => fun
  | [] => { results := [.lit (.bool false)], args := [] }
  | _ => none }
def ValsKnownWrongFalsely : Prop := valsKnownRow.holds Try.pinned (OpenSpec.ofChange valsKnownWrong)

/-- 'landfalllaw05.ValsBack': WHATEVER THE INPUT: true; the input reads as it did. -/
def valsBackSpec : ChangeSpec := { name := "valsBack", fn := fun _ => fun
  | [d1, d2, d3] => { results := [.lit (.bool true)], args := [d1, d2, d3] }
  | _ => none }
def valsBackRow : OpenClaim := { program := "ytmfaepkmiceoeaa", sum := "074243b3f09329ddf297fcb6aae31e8331c4f5f523cb5ec13cb53710d5710739", func := "landfall/landfalllaw05.ValsBack", spec := "valsBack", inPlace := ["internal/bytealg.Compare"], unfollowed := true, recurses := true, apart := false }
def ValsBackSaid : Prop := valsBackRow.holds Try.pinned (OpenSpec.ofChange valsBackSpec)

/-- ITS FALSE NEIGHBOUR: 'it returns false'. Refute it at one input. -/
def valsBackWrong : ChangeSpec := { name := "valsBack", fn := fun _ => fun
  | [d1, d2, d3] => { results := [.lit (.bool false)], args := [d1, d2, d3] }
  | _ => none }
def ValsBackWrongFalsely : Prop := valsBackRow.holds Try.pinned (OpenSpec.ofChange valsBackWrong)

/-- 'landfalllaw05.ValsMade': WHATEVER THE INPUT: true; the input reads as it did. -/
def valsMadeSpec : ChangeSpec := { name := "valsMade", fn := fun _ => fun
  | [d1, d2, d3] => { results := [.lit (.bool true)], args := [d1, d2, d3] }
  | _ => none }
def valsMadeRow : OpenClaim := { program := "ytmfaepkmiceoeaa", sum := "074243b3f09329ddf297fcb6aae31e8331c4f5f523cb5ec13cb53710d5710739", func := "landfall/landfalllaw05.ValsMade", spec := "valsMade", inPlace := ["internal/bytealg.Compare"], unfollowed := true, recurses := true, apart := false }
def ValsMadeSaid : Prop := valsMadeRow.holds Try.pinned (OpenSpec.ofChange valsMadeSpec)

/-- ITS FALSE NEIGHBOUR: 'it returns false'. Refute it at one input. -/
def valsMadeWrong : ChangeSpec := { name := "valsMade", fn := fun _ => fun
  | [d1, d2, d3] => { results := [.lit (.bool false)], args := [d1, d2, d3] }
  | _ => none }
def ValsMadeWrongFalsely : Prop := valsMadeRow.holds Try.pinned (OpenSpec.ofChange valsMadeWrong)

/-- 'landfalllaw05.ValsTells': WHATEVER THE INPUT: true; the input reads as it did. -/
def valsTellsSpec : ChangeSpec := { name := "valsTells", fn := fun _ => fun
  | [d1, d2] => { results := [.lit (.bool true)], args := [d1, d2] }
  | _ => none }
def valsTellsRow : OpenClaim := { program := "ytmfaepkmiceoeaa", sum := "074243b3f09329ddf297fcb6aae31e8331c4f5f523cb5ec13cb53710d5710739", func := "landfall/landfalllaw05.ValsTells", spec := "valsTells", inPlace := ["internal/bytealg.Compare", "internal/bytealg.IndexByteString", "internal/bytealg.IndexString"], unfollowed := true, recurses := true, named := ["internal/bytealg.MaxLen"], apart := false }
def ValsTellsSaid : Prop := valsTellsRow.holds Try.pinned (OpenSpec.ofChange valsTellsSpec)

/-- ITS FALSE NEIGHBOUR: 'it returns false'. Refute it at one input. -/
def valsTellsWrong : ChangeSpec := { name := "valsTells", fn := fun _ => fun
  | [d1, d2] => { results := [.lit (.bool false)], args := [d1, d2] }
  | _ => none }
def ValsTellsWrongFalsely : Prop := valsTellsRow.holds Try.pinned (OpenSpec.ofChange valsTellsWrong)

/- THE SECOND FORM. 'bulk': how many values and letters a reading holds, each counted each time it is reached (what is shared counts as often as it is met; a slice's spare places count too). A statement '..UptoSaid' is the law's where the arguments, and the package variables that the reading takes, are together of bulk at most 1048576: NARROWER than '..Said'. Prove '..Said' where nothing that the law and all that it calls make is longer than what came in: it says more and counts as full. Else prove '..UptoSaid'. A law counts once. -/
mutual
def uptoBulk {H : Type} : DataW H → Nat
  | .lit (.string bytes) => bytes.length + 1
  | .lit _ => 1
  | .nil => 1
  | .ptr d => uptoBulk d + 1
  | .slice elems spare => uptoBulkAll elems + uptoBulkAll spare + 1
  | .agg parts => uptoBulkAll parts + 1
  | .iface _ d => uptoBulk d + 1
  | .map entries => uptoBulkEntries entries + 1
  | .held _ => 1
def uptoBulkAll {H : Type} : List (DataW H) → Nat
  | [] => 0
  | d :: r => uptoBulk d + uptoBulkAll r
def uptoBulkEntries {H : Type} : List (Lit × DataW H) → Nat
  | [] => 0
  | x :: r => uptoBulkEntry x + uptoBulkEntries r
def uptoBulkEntry {H : Type} : Lit × DataW H → Nat
  | (.string bytes, d) => bytes.length + uptoBulk d + 1
  | (_, d) => uptoBulk d + 1
 end
def uptoSmall : (H : Type) → List (DataW H) → Bool := fun _ ds => decide (uptoBulkAll ds ≤ 1048576)
def OpenSpec.upto (s : _root_.Go.ChangeSpec) : _root_.Go.OpenSpec := { _root_.Go.OpenSpec.ofChange s with cond := some uptoSmall }

/-- 'landfalllaw05.ValsDecodes', WHERE WHAT IT READS IS OF BULK AT MOST 1048576: true; the input reads as it did. -/
def valsDecodesUptoRow : OpenClaim := { program := "ytmfaepkmiceoeaa", sum := "074243b3f09329ddf297fcb6aae31e8331c4f5f523cb5ec13cb53710d5710739", func := "landfall/landfalllaw05.ValsDecodes", spec := "valsDecodes", inPlace := ["internal/bytealg.Compare"], unfollowed := true, recurses := true, apart := false, narrowed := true }
def ValsDecodesUptoSaid : Prop := valsDecodesUptoRow.holds Try.pinned (OpenSpec.upto valsDecodesSpec)

/-- 'landfalllaw05.ValsChanges', WHERE WHAT IT READS IS OF BULK AT MOST 1048576: true; the input reads as it did. -/
def valsChangesUptoRow : OpenClaim := { program := "ytmfaepkmiceoeaa", sum := "074243b3f09329ddf297fcb6aae31e8331c4f5f523cb5ec13cb53710d5710739", func := "landfall/landfalllaw05.ValsChanges", spec := "valsChanges", inPlace := ["internal/bytealg.Compare"], unfollowed := true, recurses := true, apart := false, narrowed := true }
def ValsChangesUptoSaid : Prop := valsChangesUptoRow.holds Try.pinned (OpenSpec.upto valsChangesSpec)

/-- 'landfalllaw05.ValsKnown', WHERE WHAT IT READS IS OF BULK AT MOST 1048576: true; the input reads as it did. -/
def valsKnownUptoRow : OpenClaim := { program := "ytmfaepkmiceoeaa", sum := "074243b3f09329ddf297fcb6aae31e8331c4f5f523cb5ec13cb53710d5710739", func := "landfall/landfalllaw05.ValsKnown", spec := "valsKnown", inPlace := ["internal/bytealg.Compare"], unfollowed := true, recurses := true, apart := false, narrowed := true }
def ValsKnownUptoSaid : Prop := valsKnownUptoRow.holds Try.pinned (OpenSpec.upto valsKnownSpec)

/-- 'landfalllaw05.ValsBack', WHERE WHAT IT READS IS OF BULK AT MOST 1048576: true; the input reads as it did. -/
def valsBackUptoRow : OpenClaim := { program := "ytmfaepkmiceoeaa", sum := "074243b3f09329ddf297fcb6aae31e8331c4f5f523cb5ec13cb53710d5710739", func := "landfall/landfalllaw05.ValsBack", spec := "valsBack", inPlace := ["internal/bytealg.Compare"], unfollowed := true, recurses := true, apart := false, narrowed := true }
def ValsBackUptoSaid : Prop := valsBackUptoRow.holds Try.pinned (OpenSpec.upto valsBackSpec)

/-- 'landfalllaw05.ValsMade', WHERE WHAT IT READS IS OF BULK AT MOST 1048576: true; the input reads as it did. -/
def valsMadeUptoRow : OpenClaim := { program := "ytmfaepkmiceoeaa", sum := "074243b3f09329ddf297fcb6aae31e8331c4f5f523cb5ec13cb53710d5710739", func := "landfall/landfalllaw05.ValsMade", spec := "valsMade", inPlace := ["internal/bytealg.Compare"], unfollowed := true, recurses := true, apart := false, narrowed := true }
def ValsMadeUptoSaid : Prop := valsMadeUptoRow.holds Try.pinned (OpenSpec.upto valsMadeSpec)

/-- 'landfalllaw05.ValsTells', WHERE WHAT IT READS IS OF BULK AT MOST 1048576: true; the input reads as it did. -/
def valsTellsUptoRow : OpenClaim := { program := "ytmfaepkmiceoeaa", sum := "074243b3f09329ddf297fcb6aae31e8331c4f5f523cb5ec13cb53710d5710739", func := "landfall/landfalllaw05.ValsTells", spec := "valsTells", inPlace := ["internal/bytealg.Compare", "internal/bytealg.IndexByteString", "internal/bytealg.IndexString"], unfollowed := true, recurses := true, named := ["internal/bytealg.MaxLen"], apart := false, narrowed := true }
def ValsTellsUptoSaid : Prop := valsTellsUptoRow.holds Try.pinned (OpenSpec.upto valsTellsSpec)

end Rows
end Go.Proofs.Ytmfaepkmiceoeaa
