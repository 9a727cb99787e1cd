/-
  No cell of these rows narrows 'for every input' (looked for: loops, veiled, ifaces, maps, wideKeys, modest, calm, conditions, laid).
  DERIVED. THE GIVEN ROWS OF THIS SEAT. 6 by the template 'for every input the law returns true; each argument reads behind the call as it read before'; 0 by the template 'total and deterministic' (their statements: YtninaabbojcdpaaGreatTotals.lean).
  GIVEN WITH THE SEED: the statements are not yours to turn. If you find one false, say at which input.
  Laid BY PROGRAM, IN A SANDBOX (cutbox-rows.mjs): the forced cells as the released guide's own fill.sh prints them over the translation 72e2c1a16e296c99… (all of the seat's roots in one cut). By AI agents, Wed Nov 11 2026. No macro, syntax, notation, axiom, sorry.
-/
import Derived.Test.YtninaabbojcdpaaGreatChecked
import GoSem.Claim
import GoSem.ClaimJoined
import GoSem.ClaimMapViews
import Derived.JoinedTies
import Derived.KernelRfl
namespace Go.Proofs.YtninaabbojcdpaaGreat
/- THE CELL 'sum', in the pinned program and in every row, IS THE sha256 OF THE DUMP (.gsa) THAT YtninaabbojcdpaaGreatProg.lean LOADS. Nothing in Lean hashes anything: it is a label: what it is worth is what the hold of that sum in a sandbox is worth. -/
noncomputable def Tryz.pinned : Pinned := { name := "ytninaabbojcdpaagreat", sum := "72e2c1a16e296c99af906e7e28282aad4a6dfb560edec8737134ee4640cb71db", checked := Tryz.checked }
namespace Rows
def none {H : Type} : Left H := { results := [], args := [] }

/-- 'landfalllaw14.MsgDecodes': WHATEVER THE INPUT: true; the input reads as it did. -/
def msgDecodesSpec : ChangeSpec := { name := "msgDecodes", fn := fun _ => fun
  | [d] => { results := [.lit (.bool true)], args := [d] }
  | _ => none }
def msgDecodesRow : OpenClaim := { program := "ytninaabbojcdpaagreat", sum := "72e2c1a16e296c99af906e7e28282aad4a6dfb560edec8737134ee4640cb71db", func := "landfall/landfalllaw14.MsgDecodes", spec := "msgDecodes", inPlace := ["internal/bytealg.Compare"], unfollowed := true, recurses := true, apart := false }
def MsgDecodesSaid : Prop := msgDecodesRow.holds Tryz.pinned (OpenSpec.ofChange msgDecodesSpec)

/-- ITS FALSE NEIGHBOUR: 'it returns false'. Refute it at one input. -/
def msgDecodesWrong : ChangeSpec := { name := "msgDecodes", fn := fun _ => fun
  | [d] => { results := [.lit (.bool false)], args := [d] }
  | _ => none }
def MsgDecodesWrongFalsely : Prop := msgDecodesRow.holds Tryz.pinned (OpenSpec.ofChange msgDecodesWrong)

/-- 'landfalllaw14.MsgLong': WHATEVER THE INPUT: true; the input reads as it did. -/
def msgLongSpec : ChangeSpec := { name := "msgLong", fn := fun _ => fun
  | [d] => { results := [.lit (.bool true)], args := [d] }
  | _ => none }
def msgLongRow : OpenClaim := { program := "ytninaabbojcdpaagreat", sum := "72e2c1a16e296c99af906e7e28282aad4a6dfb560edec8737134ee4640cb71db", func := "landfall/landfalllaw14.MsgLong", spec := "msgLong", inPlace := ["internal/bytealg.Compare"], unfollowed := true, recurses := true, apart := false }
def MsgLongSaid : Prop := msgLongRow.holds Tryz.pinned (OpenSpec.ofChange msgLongSpec)

/-- ITS FALSE NEIGHBOUR: 'it returns false'. Refute it at one input. -/
def msgLongWrong : ChangeSpec := { name := "msgLong", fn := fun _ => fun
  | [d] => { results := [.lit (.bool false)], args := [d] }
  | _ => none }
def MsgLongWrongFalsely : Prop := msgLongRow.holds Tryz.pinned (OpenSpec.ofChange msgLongWrong)

/-- 'landfalllaw14.MsgKnown': WHATEVER THE INPUT: true; the input reads as it did. -/
def msgKnownSpec : ChangeSpec := { name := "msgKnown", fn := fun _ => fun
  | [] => { results := [.lit (.bool true)], args := [] }
  | _ => none }
def msgKnownRow : OpenClaim := { program := "ytninaabbojcdpaagreat", sum := "72e2c1a16e296c99af906e7e28282aad4a6dfb560edec8737134ee4640cb71db", func := "landfall/landfalllaw14.MsgKnown", spec := "msgKnown", inPlace := ["internal/bytealg.Compare"], unfollowed := true, recurses := true, apart := false }
def MsgKnownSaid : Prop := msgKnownRow.holds Tryz.pinned (OpenSpec.ofChange msgKnownSpec)

/-- ITS FALSE NEIGHBOUR: 'it returns false'. Refute it at one input. -/
def msgKnownWrong : ChangeSpec := { name := "msgKnown", fn := fun _ => fun
  | [] => { results := [.lit (.bool false)], args := [] }
  | _ => none }
def MsgKnownWrongFalsely : Prop := msgKnownRow.holds Tryz.pinned (OpenSpec.ofChange msgKnownWrong)

/-- 'landfalllaw14.MsgEncodes': WHATEVER THE INPUT: true; the input reads as it did. -/
def msgEncodesSpec : ChangeSpec := { name := "msgEncodes", fn := fun _ => fun
  | [d1, d2, d3] => { results := [.lit (.bool true)], args := [d1, d2, d3] }
  | _ => none }
def msgEncodesRow : OpenClaim := { program := "ytninaabbojcdpaagreat", sum := "72e2c1a16e296c99af906e7e28282aad4a6dfb560edec8737134ee4640cb71db", func := "landfall/landfalllaw14.MsgEncodes", spec := "msgEncodes", inPlace := ["internal/bytealg.Compare"], unfollowed := true, recurses := true, apart := false }
def MsgEncodesSaid : Prop := msgEncodesRow.holds Tryz.pinned (OpenSpec.ofChange msgEncodesSpec)

/-- ITS FALSE NEIGHBOUR: 'it returns false'. Refute it at one input. -/
def msgEncodesWrong : ChangeSpec := { name := "msgEncodes", fn := fun _ => fun
  | [d1, d2, d3] => { results := [.lit (.bool false)], args := [d1, d2, d3] }
  | _ => none }
def MsgEncodesWrongFalsely : Prop := msgEncodesRow.holds Tryz.pinned (OpenSpec.ofChange msgEncodesWrong)

/-- 'landfalllaw14.MsgBack': WHATEVER THE INPUT: true; the input reads as it did. -/
def msgBackSpec : ChangeSpec := { name := "msgBack", fn := fun _ => fun
  | [d1, d2, d3, d4] => { results := [.lit (.bool true)], args := [d1, d2, d3, d4] }
  | _ => none }
def msgBackRow : OpenClaim := { program := "ytninaabbojcdpaagreat", sum := "72e2c1a16e296c99af906e7e28282aad4a6dfb560edec8737134ee4640cb71db", func := "landfall/landfalllaw14.MsgBack", spec := "msgBack", inPlace := ["internal/bytealg.Compare"], unfollowed := true, recurses := true, apart := false }
def MsgBackSaid : Prop := msgBackRow.holds Tryz.pinned (OpenSpec.ofChange msgBackSpec)

/-- ITS FALSE NEIGHBOUR: 'it returns false'. Refute it at one input. -/
def msgBackWrong : ChangeSpec := { name := "msgBack", fn := fun _ => fun
  | [d1, d2, d3, d4] => { results := [.lit (.bool false)], args := [d1, d2, d3, d4] }
  | _ => none }
def MsgBackWrongFalsely : Prop := msgBackRow.holds Tryz.pinned (OpenSpec.ofChange msgBackWrong)

/-- 'landfalllaw14.MsgOne': WHATEVER THE INPUT: true; the input reads as it did. -/
def msgOneSpec : ChangeSpec := { name := "msgOne", fn := fun _ => fun
  | [d] => { results := [.lit (.bool true)], args := [d] }
  | _ => none }
def msgOneRow : OpenClaim := { program := "ytninaabbojcdpaagreat", sum := "72e2c1a16e296c99af906e7e28282aad4a6dfb560edec8737134ee4640cb71db", func := "landfall/landfalllaw14.MsgOne", spec := "msgOne", inPlace := ["internal/bytealg.Compare"], unfollowed := true, recurses := true, apart := false }
def MsgOneSaid : Prop := msgOneRow.holds Tryz.pinned (OpenSpec.ofChange msgOneSpec)

/-- ITS FALSE NEIGHBOUR: 'it returns false'. Refute it at one input. -/
def msgOneWrong : ChangeSpec := { name := "msgOne", fn := fun _ => fun
  | [d] => { results := [.lit (.bool false)], args := [d] }
  | _ => none }
def MsgOneWrongFalsely : Prop := msgOneRow.holds Tryz.pinned (OpenSpec.ofChange msgOneWrong)

/- THE SECOND FORM. 'bulk': how many values and letters a reading holds, each counted each time it is reached (what is shared counts as often as it is met; a slice's spare places count too). A statement '..UptoSaid' is the law's where the arguments, and the package variables that the reading takes, are together of bulk at most 1048576: NARROWER than '..Said'. Prove '..Said' where nothing that the law and all that it calls make is longer than what came in: it says more and counts as full. Else prove '..UptoSaid'. A law counts once. -/
mutual
def uptoBulk {H : Type} : DataW H → Nat
  | .lit (.string bytes) => bytes.length + 1
  | .lit _ => 1
  | .nil => 1
  | .ptr d => uptoBulk d + 1
  | .slice elems spare => uptoBulkAll elems + uptoBulkAll spare + 1
  | .agg parts => uptoBulkAll parts + 1
  | .iface _ d => uptoBulk d + 1
  | .map entries => uptoBulkEntries entries + 1
  | .held _ => 1
def uptoBulkAll {H : Type} : List (DataW H) → Nat
  | [] => 0
  | d :: r => uptoBulk d + uptoBulkAll r
def uptoBulkEntries {H : Type} : List (Lit × DataW H) → Nat
  | [] => 0
  | x :: r => uptoBulkEntry x + uptoBulkEntries r
def uptoBulkEntry {H : Type} : Lit × DataW H → Nat
  | (.string bytes, d) => bytes.length + uptoBulk d + 1
  | (_, d) => uptoBulk d + 1
 end
def uptoSmall : (H : Type) → List (DataW H) → Bool := fun _ ds => decide (uptoBulkAll ds ≤ 1048576)
def OpenSpec.upto (s : _root_.Go.ChangeSpec) : _root_.Go.OpenSpec := { _root_.Go.OpenSpec.ofChange s with cond := some uptoSmall }

/-- 'landfalllaw14.MsgDecodes', WHERE WHAT IT READS IS OF BULK AT MOST 1048576: true; the input reads as it did. -/
def msgDecodesUptoRow : OpenClaim := { program := "ytninaabbojcdpaagreat", sum := "72e2c1a16e296c99af906e7e28282aad4a6dfb560edec8737134ee4640cb71db", func := "landfall/landfalllaw14.MsgDecodes", spec := "msgDecodes", inPlace := ["internal/bytealg.Compare"], unfollowed := true, recurses := true, apart := false, narrowed := true }
def MsgDecodesUptoSaid : Prop := msgDecodesUptoRow.holds Tryz.pinned (OpenSpec.upto msgDecodesSpec)

/-- 'landfalllaw14.MsgLong', WHERE WHAT IT READS IS OF BULK AT MOST 1048576: true; the input reads as it did. -/
def msgLongUptoRow : OpenClaim := { program := "ytninaabbojcdpaagreat", sum := "72e2c1a16e296c99af906e7e28282aad4a6dfb560edec8737134ee4640cb71db", func := "landfall/landfalllaw14.MsgLong", spec := "msgLong", inPlace := ["internal/bytealg.Compare"], unfollowed := true, recurses := true, apart := false, narrowed := true }
def MsgLongUptoSaid : Prop := msgLongUptoRow.holds Tryz.pinned (OpenSpec.upto msgLongSpec)

/-- 'landfalllaw14.MsgKnown', WHERE WHAT IT READS IS OF BULK AT MOST 1048576: true; the input reads as it did. -/
def msgKnownUptoRow : OpenClaim := { program := "ytninaabbojcdpaagreat", sum := "72e2c1a16e296c99af906e7e28282aad4a6dfb560edec8737134ee4640cb71db", func := "landfall/landfalllaw14.MsgKnown", spec := "msgKnown", inPlace := ["internal/bytealg.Compare"], unfollowed := true, recurses := true, apart := false, narrowed := true }
def MsgKnownUptoSaid : Prop := msgKnownUptoRow.holds Tryz.pinned (OpenSpec.upto msgKnownSpec)

/-- 'landfalllaw14.MsgEncodes', WHERE WHAT IT READS IS OF BULK AT MOST 1048576: true; the input reads as it did. -/
def msgEncodesUptoRow : OpenClaim := { program := "ytninaabbojcdpaagreat", sum := "72e2c1a16e296c99af906e7e28282aad4a6dfb560edec8737134ee4640cb71db", func := "landfall/landfalllaw14.MsgEncodes", spec := "msgEncodes", inPlace := ["internal/bytealg.Compare"], unfollowed := true, recurses := true, apart := false, narrowed := true }
def MsgEncodesUptoSaid : Prop := msgEncodesUptoRow.holds Tryz.pinned (OpenSpec.upto msgEncodesSpec)

/-- 'landfalllaw14.MsgBack', WHERE WHAT IT READS IS OF BULK AT MOST 1048576: true; the input reads as it did. -/
def msgBackUptoRow : OpenClaim := { program := "ytninaabbojcdpaagreat", sum := "72e2c1a16e296c99af906e7e28282aad4a6dfb560edec8737134ee4640cb71db", func := "landfall/landfalllaw14.MsgBack", spec := "msgBack", inPlace := ["internal/bytealg.Compare"], unfollowed := true, recurses := true, apart := false, narrowed := true }
def MsgBackUptoSaid : Prop := msgBackUptoRow.holds Tryz.pinned (OpenSpec.upto msgBackSpec)

/-- 'landfalllaw14.MsgOne', WHERE WHAT IT READS IS OF BULK AT MOST 1048576: true; the input reads as it did. -/
def msgOneUptoRow : OpenClaim := { program := "ytninaabbojcdpaagreat", sum := "72e2c1a16e296c99af906e7e28282aad4a6dfb560edec8737134ee4640cb71db", func := "landfall/landfalllaw14.MsgOne", spec := "msgOne", inPlace := ["internal/bytealg.Compare"], unfollowed := true, recurses := true, apart := false, narrowed := true }
def MsgOneUptoSaid : Prop := msgOneUptoRow.holds Tryz.pinned (OpenSpec.upto msgOneSpec)

end Rows
end Go.Proofs.YtninaabbojcdpaaGreat
