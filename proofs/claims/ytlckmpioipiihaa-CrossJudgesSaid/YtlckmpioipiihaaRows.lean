/-
  No cell of these rows narrows 'for every input' (looked for: loops, veiled, ifaces, maps, wideKeys, modest, calm, conditions, laid).
  DERIVED. THE GIVEN ROWS OF THIS SEAT. 3 by the template 'for every input the law returns true; each argument reads behind the call as it read before'; 0 by the template 'total and deterministic' (their statements: YtlckmpioipiihaaTotals.lean).
  GIVEN WITH THE SEED: the statements are not yours to turn. If you find one false, say at which input.
  Laid BY PROGRAM, IN A SANDBOX (cutbox-rows.mjs): the forced cells as the released guide's own fill.sh prints them over the translation 9c18e1c07b0ed52d… (all of the seat's roots in one cut). By AI agents, Wed Nov 11 2026. No macro, syntax, notation, axiom, sorry.
-/
import Derived.Test.YtlckmpioipiihaaChecked
import GoSem.Claim
import GoSem.ClaimJoined
import GoSem.ClaimMapViews
import Derived.JoinedTies
import Derived.KernelRfl
namespace Go.Proofs.Ytlckmpioipiihaa
/- THE CELL 'sum', in the pinned program and in every row, IS THE sha256 OF THE DUMP (.gsa) THAT YtlckmpioipiihaaProg.lean LOADS. Nothing in Lean hashes anything: it is a label: what it is worth is what the hold of that sum in a sandbox is worth. -/
noncomputable def Try.pinned : Pinned := { name := "ytlckmpioipiihaa", sum := "9c18e1c07b0ed52d79c8311aa504665b484fa855499baf8aafea55930a41f7d0", checked := Try.checked }
namespace Rows
def none {H : Type} : Left H := { results := [], args := [] }

/-- 'landfalllaw25.CrossNone': WHATEVER THE INPUT: true; the input reads as it did. -/
def crossNoneSpec : ChangeSpec := { name := "crossNone", fn := fun _ => fun
  | [d1, d2] => { results := [.lit (.bool true)], args := [d1, d2] }
  | _ => none }
def crossNoneRow : OpenClaim := { program := "ytlckmpioipiihaa", sum := "9c18e1c07b0ed52d79c8311aa504665b484fa855499baf8aafea55930a41f7d0", func := "landfall/landfalllaw25.CrossNone", spec := "crossNone", inPlace := ["internal/bytealg.IndexByteString", "internal/bytealg.IndexString"], unfollowed := true, recurses := true, named := ["internal/bytealg.MaxLen"], apart := false }
def CrossNoneSaid : Prop := crossNoneRow.holds Try.pinned (OpenSpec.ofChange crossNoneSpec)

/-- ITS FALSE NEIGHBOUR: 'it returns false'. Refute it at one input. -/
def crossNoneWrong : ChangeSpec := { name := "crossNone", fn := fun _ => fun
  | [d1, d2] => { results := [.lit (.bool false)], args := [d1, d2] }
  | _ => none }
def CrossNoneWrongFalsely : Prop := crossNoneRow.holds Try.pinned (OpenSpec.ofChange crossNoneWrong)

/-- 'landfalllaw25.CrossKnown': WHATEVER THE INPUT: true; the input reads as it did. -/
def crossKnownSpec : ChangeSpec := { name := "crossKnown", fn := fun _ => fun
  | [] => { results := [.lit (.bool true)], args := [] }
  | _ => none }
def crossKnownRow : OpenClaim := { program := "ytlckmpioipiihaa", sum := "9c18e1c07b0ed52d79c8311aa504665b484fa855499baf8aafea55930a41f7d0", func := "landfall/landfalllaw25.CrossKnown", spec := "crossKnown", inPlace := ["internal/bytealg.IndexByteString", "internal/bytealg.IndexString"], unfollowed := true, recurses := true, named := ["internal/bytealg.MaxLen"], apart := false }
def CrossKnownSaid : Prop := crossKnownRow.holds Try.pinned (OpenSpec.ofChange crossKnownSpec)

/-- ITS FALSE NEIGHBOUR: 'it returns false'. Refute it at one input. -/
def crossKnownWrong : ChangeSpec := { name := "crossKnown", fn := fun _ => fun
  | [] => { results := [.lit (.bool false)], args := [] }
  | _ => none }
def CrossKnownWrongFalsely : Prop := crossKnownRow.holds Try.pinned (OpenSpec.ofChange crossKnownWrong)

/-- 'landfalllaw25.CrossJudges': WHATEVER THE INPUT: true; the input reads as it did. -/
def crossJudgesSpec : ChangeSpec := { name := "crossJudges", fn := fun _ => fun
  | [d1, d2, d3] => { results := [.lit (.bool true)], args := [d1, d2, d3] }
  | _ => none }
def crossJudgesRow : OpenClaim := { program := "ytlckmpioipiihaa", sum := "9c18e1c07b0ed52d79c8311aa504665b484fa855499baf8aafea55930a41f7d0", func := "landfall/landfalllaw25.CrossJudges", spec := "crossJudges", inPlace := ["internal/bytealg.IndexByteString", "internal/bytealg.IndexString"], unfollowed := true, recurses := true, named := ["internal/bytealg.MaxLen"], apart := false }
def CrossJudgesSaid : Prop := crossJudgesRow.holds Try.pinned (OpenSpec.ofChange crossJudgesSpec)

/-- ITS FALSE NEIGHBOUR: 'it returns false'. Refute it at one input. -/
def crossJudgesWrong : ChangeSpec := { name := "crossJudges", fn := fun _ => fun
  | [d1, d2, d3] => { results := [.lit (.bool false)], args := [d1, d2, d3] }
  | _ => none }
def CrossJudgesWrongFalsely : Prop := crossJudgesRow.holds Try.pinned (OpenSpec.ofChange crossJudgesWrong)

/- THE SECOND FORM. 'bulk': how many values and letters a reading holds, each counted each time it is reached (what is shared counts as often as it is met; a slice's spare places count too). A statement '..UptoSaid' is the law's where the arguments, and the package variables that the reading takes, are together of bulk at most 1048576: NARROWER than '..Said'. Prove '..Said' where nothing that the law and all that it calls make is longer than what came in: it says more and counts as full. Else prove '..UptoSaid'. A law counts once. -/
mutual
def uptoBulk {H : Type} : DataW H → Nat
  | .lit (.string bytes) => bytes.length + 1
  | .lit _ => 1
  | .nil => 1
  | .ptr d => uptoBulk d + 1
  | .slice elems spare => uptoBulkAll elems + uptoBulkAll spare + 1
  | .agg parts => uptoBulkAll parts + 1
  | .iface _ d => uptoBulk d + 1
  | .map entries => uptoBulkEntries entries + 1
  | .held _ => 1
def uptoBulkAll {H : Type} : List (DataW H) → Nat
  | [] => 0
  | d :: r => uptoBulk d + uptoBulkAll r
def uptoBulkEntries {H : Type} : List (Lit × DataW H) → Nat
  | [] => 0
  | x :: r => uptoBulkEntry x + uptoBulkEntries r
def uptoBulkEntry {H : Type} : Lit × DataW H → Nat
  | (.string bytes, d) => bytes.length + uptoBulk d + 1
  | (_, d) => uptoBulk d + 1
 end
def uptoSmall : (H : Type) → List (DataW H) → Bool := fun _ ds => decide (uptoBulkAll ds ≤ 1048576)
def OpenSpec.upto (s : _root_.Go.ChangeSpec) : _root_.Go.OpenSpec := { _root_.Go.OpenSpec.ofChange s with cond := some uptoSmall }

/-- 'landfalllaw25.CrossNone', WHERE WHAT IT READS IS OF BULK AT MOST 1048576: true; the input reads as it did. -/
def crossNoneUptoRow : OpenClaim := { program := "ytlckmpioipiihaa", sum := "9c18e1c07b0ed52d79c8311aa504665b484fa855499baf8aafea55930a41f7d0", func := "landfall/landfalllaw25.CrossNone", spec := "crossNone", inPlace := ["internal/bytealg.IndexByteString", "internal/bytealg.IndexString"], unfollowed := true, recurses := true, named := ["internal/bytealg.MaxLen"], apart := false, narrowed := true }
def CrossNoneUptoSaid : Prop := crossNoneUptoRow.holds Try.pinned (OpenSpec.upto crossNoneSpec)

/-- 'landfalllaw25.CrossKnown', WHERE WHAT IT READS IS OF BULK AT MOST 1048576: true; the input reads as it did. -/
def crossKnownUptoRow : OpenClaim := { program := "ytlckmpioipiihaa", sum := "9c18e1c07b0ed52d79c8311aa504665b484fa855499baf8aafea55930a41f7d0", func := "landfall/landfalllaw25.CrossKnown", spec := "crossKnown", inPlace := ["internal/bytealg.IndexByteString", "internal/bytealg.IndexString"], unfollowed := true, recurses := true, named := ["internal/bytealg.MaxLen"], apart := false, narrowed := true }
def CrossKnownUptoSaid : Prop := crossKnownUptoRow.holds Try.pinned (OpenSpec.upto crossKnownSpec)

/-- 'landfalllaw25.CrossJudges', WHERE WHAT IT READS IS OF BULK AT MOST 1048576: true; the input reads as it did. -/
def crossJudgesUptoRow : OpenClaim := { program := "ytlckmpioipiihaa", sum := "9c18e1c07b0ed52d79c8311aa504665b484fa855499baf8aafea55930a41f7d0", func := "landfall/landfalllaw25.CrossJudges", spec := "crossJudges", inPlace := ["internal/bytealg.IndexByteString", "internal/bytealg.IndexString"], unfollowed := true, recurses := true, named := ["internal/bytealg.MaxLen"], apart := false, narrowed := true }
def CrossJudgesUptoSaid : Prop := crossJudgesUptoRow.holds Try.pinned (OpenSpec.upto crossJudgesSpec)

end Rows
end Go.Proofs.Ytlckmpioipiihaa
