/-
  No cell of these rows narrows 'for every input' (looked for: loops, veiled, ifaces, maps, wideKeys, modest, calm, conditions, laid).
  DERIVED. THE GIVEN ROWS OF THIS SEAT. 4 by the template 'for every input the law returns true; each argument reads behind the call as it read before'; 0 by the template 'total and deterministic' (their statements: YtbmpalbdbcjieaaGreatTotals.lean).
  GIVEN WITH THE SEED: the statements are not yours to turn. If you find one false, say at which input.
  Laid BY PROGRAM, IN A SANDBOX (cutbox-rows.mjs): the forced cells as the released guide's own fill.sh prints them over the translation e6cbfa2d48029d0b… (all of the seat's roots in one cut). By AI agents, Wed Nov 11 2026. No macro, syntax, notation, axiom, sorry.
-/
import Derived.Test.YtbmpalbdbcjieaaGreatChecked
import GoSem.Claim
import GoSem.ClaimJoined
import GoSem.ClaimMapViews
import Derived.JoinedTies
import Derived.KernelRfl
namespace Go.Proofs.YtbmpalbdbcjieaaGreat
/- THE CELL 'sum', in the pinned program and in every row, IS THE sha256 OF THE DUMP (.gsa) THAT YtbmpalbdbcjieaaGreatProg.lean LOADS. Nothing in Lean hashes anything: it is a label: what it is worth is what the hold of that sum in a sandbox is worth. -/
noncomputable def Tryz.pinned : Pinned := { name := "ytbmpalbdbcjieaagreat", sum := "e6cbfa2d48029d0b8de0c15a1ce9fcbac1ac38b4dd8deff215b2185dfad0ebf9", checked := Tryz.checked }
namespace Rows
def none {H : Type} : Left H := { results := [], args := [] }

/-- 'landfalllaw09.BlockMakes': WHATEVER THE INPUT: true; the input reads as it did. -/
def blockMakesSpec : ChangeSpec := { name := "blockMakes", fn := fun _ => fun
  | [d1, d2] => { results := [.lit (.bool true)], args := [d1, d2] }
  | _ => none }
def blockMakesRow : OpenClaim := { program := "ytbmpalbdbcjieaagreat", sum := "e6cbfa2d48029d0b8de0c15a1ce9fcbac1ac38b4dd8deff215b2185dfad0ebf9", func := "landfall/landfalllaw09.BlockMakes", spec := "blockMakes", inPlace := ["internal/bytealg.Compare", "internal/bytealg.IndexByteString", "internal/bytealg.IndexString"], unfollowed := true, recurses := true, named := ["internal/bytealg.MaxLen"], apart := false }
def BlockMakesSaid : Prop := blockMakesRow.holds Tryz.pinned (OpenSpec.ofChange blockMakesSpec)

/-- ITS FALSE NEIGHBOUR: 'it returns false'. Refute it at one input. -/
def blockMakesWrong : ChangeSpec := { name := "blockMakes", fn := fun _ => fun
  | [d1, d2] => { results := [.lit (.bool false)], args := [d1, d2] }
  | _ => none }
def BlockMakesWrongFalsely : Prop := blockMakesRow.holds Tryz.pinned (OpenSpec.ofChange blockMakesWrong)

/-- 'landfalllaw09.BlockDecodes': WHATEVER THE INPUT: true; the input reads as it did. -/
def blockDecodesSpec : ChangeSpec := { name := "blockDecodes", fn := fun _ => fun
  | [d] => { results := [.lit (.bool true)], args := [d] }
  | _ => none }
def blockDecodesRow : OpenClaim := { program := "ytbmpalbdbcjieaagreat", sum := "e6cbfa2d48029d0b8de0c15a1ce9fcbac1ac38b4dd8deff215b2185dfad0ebf9", func := "landfall/landfalllaw09.BlockDecodes", spec := "blockDecodes", inPlace := ["internal/bytealg.Compare", "internal/bytealg.IndexByteString", "internal/bytealg.IndexString"], unfollowed := true, recurses := true, named := ["internal/bytealg.MaxLen"], apart := false }
def BlockDecodesSaid : Prop := blockDecodesRow.holds Tryz.pinned (OpenSpec.ofChange blockDecodesSpec)

/-- ITS FALSE NEIGHBOUR: 'it returns false'. Refute it at one input. -/
def blockDecodesWrong : ChangeSpec := { name := "blockDecodes", fn := fun _ => fun
  | [d] => { results := [.lit (.bool false)], args := [d] }
  | _ => none }
def BlockDecodesWrongFalsely : Prop := blockDecodesRow.holds Tryz.pinned (OpenSpec.ofChange blockDecodesWrong)

/-- 'landfalllaw09.BlockKnown': WHATEVER THE INPUT: true; the input reads as it did. -/
def blockKnownSpec : ChangeSpec := { name := "blockKnown", fn := fun _ => fun
  | [] => { results := [.lit (.bool true)], args := [] }
  | _ => none }
def blockKnownRow : OpenClaim := { program := "ytbmpalbdbcjieaagreat", sum := "e6cbfa2d48029d0b8de0c15a1ce9fcbac1ac38b4dd8deff215b2185dfad0ebf9", func := "landfall/landfalllaw09.BlockKnown", spec := "blockKnown", inPlace := ["internal/bytealg.Compare", "internal/bytealg.IndexByteString", "internal/bytealg.IndexString"], unfollowed := true, recurses := true, named := ["internal/bytealg.MaxLen"], apart := false }
def BlockKnownSaid : Prop := blockKnownRow.holds Tryz.pinned (OpenSpec.ofChange blockKnownSpec)

/-- ITS FALSE NEIGHBOUR: 'it returns false'. Refute it at one input. -/
def blockKnownWrong : ChangeSpec := { name := "blockKnown", fn := fun _ => fun
  | [] => { results := [.lit (.bool false)], args := [] }
  | _ => none }
def BlockKnownWrongFalsely : Prop := blockKnownRow.holds Tryz.pinned (OpenSpec.ofChange blockKnownWrong)

/-- 'landfalllaw09.BlockLinks': WHATEVER THE INPUT: true; the input reads as it did. -/
def blockLinksSpec : ChangeSpec := { name := "blockLinks", fn := fun _ => fun
  | [d1, d2] => { results := [.lit (.bool true)], args := [d1, d2] }
  | _ => none }
def blockLinksRow : OpenClaim := { program := "ytbmpalbdbcjieaagreat", sum := "e6cbfa2d48029d0b8de0c15a1ce9fcbac1ac38b4dd8deff215b2185dfad0ebf9", func := "landfall/landfalllaw09.BlockLinks", spec := "blockLinks", inPlace := ["internal/bytealg.Compare", "internal/bytealg.IndexByteString", "internal/bytealg.IndexString"], unfollowed := true, recurses := true, named := ["internal/bytealg.MaxLen"], apart := false }
def BlockLinksSaid : Prop := blockLinksRow.holds Tryz.pinned (OpenSpec.ofChange blockLinksSpec)

/-- ITS FALSE NEIGHBOUR: 'it returns false'. Refute it at one input. -/
def blockLinksWrong : ChangeSpec := { name := "blockLinks", fn := fun _ => fun
  | [d1, d2] => { results := [.lit (.bool false)], args := [d1, d2] }
  | _ => none }
def BlockLinksWrongFalsely : Prop := blockLinksRow.holds Tryz.pinned (OpenSpec.ofChange blockLinksWrong)

/- THE SECOND FORM. 'bulk': how many values and letters a reading holds, each counted each time it is reached (what is shared counts as often as it is met; a slice's spare places count too). A statement '..UptoSaid' is the law's where the arguments, and the package variables that the reading takes, are together of bulk at most 1048576: NARROWER than '..Said'. Prove '..Said' where nothing that the law and all that it calls make is longer than what came in: it says more and counts as full. Else prove '..UptoSaid'. A law counts once. -/
mutual
def uptoBulk {H : Type} : DataW H → Nat
  | .lit (.string bytes) => bytes.length + 1
  | .lit _ => 1
  | .nil => 1
  | .ptr d => uptoBulk d + 1
  | .slice elems spare => uptoBulkAll elems + uptoBulkAll spare + 1
  | .agg parts => uptoBulkAll parts + 1
  | .iface _ d => uptoBulk d + 1
  | .map entries => uptoBulkEntries entries + 1
  | .held _ => 1
def uptoBulkAll {H : Type} : List (DataW H) → Nat
  | [] => 0
  | d :: r => uptoBulk d + uptoBulkAll r
def uptoBulkEntries {H : Type} : List (Lit × DataW H) → Nat
  | [] => 0
  | x :: r => uptoBulkEntry x + uptoBulkEntries r
def uptoBulkEntry {H : Type} : Lit × DataW H → Nat
  | (.string bytes, d) => bytes.length + uptoBulk d + 1
  | (_, d) => uptoBulk d + 1
 end
def uptoSmall : (H : Type) → List (DataW H) → Bool := fun _ ds => decide (uptoBulkAll ds ≤ 1048576)
def OpenSpec.upto (s : _root_.Go.ChangeSpec) : _root_.Go.OpenSpec := { _root_.Go.OpenSpec.ofChange s with cond := some uptoSmall }

/-- 'landfalllaw09.BlockMakes', WHERE WHAT IT READS IS OF BULK AT MOST 1048576: true; the input reads as it did. -/
def blockMakesUptoRow : OpenClaim := { program := "ytbmpalbdbcjieaagreat", sum := "e6cbfa2d48029d0b8de0c15a1ce9fcbac1ac38b4dd8deff215b2185dfad0ebf9", func := "landfall/landfalllaw09.BlockMakes", spec := "blockMakes", inPlace := ["internal/bytealg.Compare", "internal/bytealg.IndexByteString", "internal/bytealg.IndexString"], unfollowed := true, recurses := true, named := ["internal/bytealg.MaxLen"], apart := false, narrowed := true }
def BlockMakesUptoSaid : Prop := blockMakesUptoRow.holds Tryz.pinned (OpenSpec.upto blockMakesSpec)

/-- 'landfalllaw09.BlockDecodes', WHERE WHAT IT READS IS OF BULK AT MOST 1048576: true; the input reads as it did. -/
def blockDecodesUptoRow : OpenClaim := { program := "ytbmpalbdbcjieaagreat", sum := "e6cbfa2d48029d0b8de0c15a1ce9fcbac1ac38b4dd8deff215b2185dfad0ebf9", func := "landfall/landfalllaw09.BlockDecodes", spec := "blockDecodes", inPlace := ["internal/bytealg.Compare", "internal/bytealg.IndexByteString", "internal/bytealg.IndexString"], unfollowed := true, recurses := true, named := ["internal/bytealg.MaxLen"], apart := false, narrowed := true }
def BlockDecodesUptoSaid : Prop := blockDecodesUptoRow.holds Tryz.pinned (OpenSpec.upto blockDecodesSpec)

/-- 'landfalllaw09.BlockKnown', WHERE WHAT IT READS IS OF BULK AT MOST 1048576: true; the input reads as it did. -/
def blockKnownUptoRow : OpenClaim := { program := "ytbmpalbdbcjieaagreat", sum := "e6cbfa2d48029d0b8de0c15a1ce9fcbac1ac38b4dd8deff215b2185dfad0ebf9", func := "landfall/landfalllaw09.BlockKnown", spec := "blockKnown", inPlace := ["internal/bytealg.Compare", "internal/bytealg.IndexByteString", "internal/bytealg.IndexString"], unfollowed := true, recurses := true, named := ["internal/bytealg.MaxLen"], apart := false, narrowed := true }
def BlockKnownUptoSaid : Prop := blockKnownUptoRow.holds Tryz.pinned (OpenSpec.upto blockKnownSpec)

/-- 'landfalllaw09.BlockLinks', WHERE WHAT IT READS IS OF BULK AT MOST 1048576: true; the input reads as it did. -/
def blockLinksUptoRow : OpenClaim := { program := "ytbmpalbdbcjieaagreat", sum := "e6cbfa2d48029d0b8de0c15a1ce9fcbac1ac38b4dd8deff215b2185dfad0ebf9", func := "landfall/landfalllaw09.BlockLinks", spec := "blockLinks", inPlace := ["internal/bytealg.Compare", "internal/bytealg.IndexByteString", "internal/bytealg.IndexString"], unfollowed := true, recurses := true, named := ["internal/bytealg.MaxLen"], apart := false, narrowed := true }
def BlockLinksUptoSaid : Prop := blockLinksUptoRow.holds Tryz.pinned (OpenSpec.upto blockLinksSpec)

end Rows
end Go.Proofs.YtbmpalbdbcjieaaGreat
