/-
  No cell of these rows narrows 'for every input' (looked for: loops, veiled, ifaces, maps, wideKeys, modest, calm, conditions, laid).
  DERIVED. THE GIVEN ROWS OF THIS SEAT. 5 by the template 'for every input the law returns true; each argument reads behind the call as it read before'; 0 by the template 'total and deterministic' (their statements: YtagmnpeilgnbdaaTotals.lean).
  GIVEN WITH THE SEED: the statements are not yours to turn. If you find one false, say at which input.
  Laid BY PROGRAM, IN A SANDBOX (cutbox-rows.mjs): the forced cells as the released guide's own fill.sh prints them over the translation d67451d2e2722de2… (all of the seat's roots in one cut). By AI agents, Wed Nov 11 2026. No macro, syntax, notation, axiom, sorry.
-/
import Derived.Test.YtagmnpeilgnbdaaChecked
import GoSem.Claim
import GoSem.ClaimJoined
import GoSem.ClaimMapViews
import Derived.JoinedTies
import Derived.KernelRfl
namespace Go.Proofs.Ytagmnpeilgnbdaa
/- THE CELL 'sum', in the pinned program and in every row, IS THE sha256 OF THE DUMP (.gsa) THAT YtagmnpeilgnbdaaProg.lean LOADS. Nothing in Lean hashes anything: it is a label: what it is worth is what the hold of that sum in a sandbox is worth. -/
noncomputable def Try.pinned : Pinned := { name := "ytagmnpeilgnbdaa", sum := "d67451d2e2722de294e4995e94c278258a4f215f25d3465938b821e7de2ce228", checked := Try.checked }
namespace Rows
def none {H : Type} : Left H := { results := [], args := [] }

/-- 'landfalllaw08.SigsActs': WHATEVER THE INPUT: true; the input reads as it did. -/
def sigsActsSpec : ChangeSpec := { name := "sigsActs", fn := fun _ => fun
  | [d1, d2] => { results := [.lit (.bool true)], args := [d1, d2] }
  | _ => none }
def sigsActsRow : OpenClaim := { program := "ytagmnpeilgnbdaa", sum := "d67451d2e2722de294e4995e94c278258a4f215f25d3465938b821e7de2ce228", func := "landfall/landfalllaw08.SigsActs", spec := "sigsActs", inPlace := ["internal/bytealg.Compare"], unfollowed := true, recurses := true, plainKeys := false, apart := false }
def SigsActsSaid : Prop := sigsActsRow.holds Try.pinned (OpenSpec.ofChange sigsActsSpec)

/-- ITS FALSE NEIGHBOUR: 'it returns false'. Refute it at one input. -/
def sigsActsWrong : ChangeSpec := { name := "sigsActs", fn := fun _ => fun
  | [d1, d2] => { results := [.lit (.bool false)], args := [d1, d2] }
  | _ => none }
def SigsActsWrongFalsely : Prop := sigsActsRow.holds Try.pinned (OpenSpec.ofChange sigsActsWrong)

/-- 'landfalllaw08.SigsNone': WHATEVER THE INPUT: true; the input reads as it did. -/
def sigsNoneSpec : ChangeSpec := { name := "sigsNone", fn := fun _ => fun
  | [d] => { results := [.lit (.bool true)], args := [d] }
  | _ => none }
def sigsNoneRow : OpenClaim := { program := "ytagmnpeilgnbdaa", sum := "d67451d2e2722de294e4995e94c278258a4f215f25d3465938b821e7de2ce228", func := "landfall/landfalllaw08.SigsNone", spec := "sigsNone", inPlace := ["internal/bytealg.Compare"], unfollowed := true, recurses := true, plainKeys := false, apart := false }
def SigsNoneSaid : Prop := sigsNoneRow.holds Try.pinned (OpenSpec.ofChange sigsNoneSpec)

/-- ITS FALSE NEIGHBOUR: 'it returns false'. Refute it at one input. -/
def sigsNoneWrong : ChangeSpec := { name := "sigsNone", fn := fun _ => fun
  | [d] => { results := [.lit (.bool false)], args := [d] }
  | _ => none }
def SigsNoneWrongFalsely : Prop := sigsNoneRow.holds Try.pinned (OpenSpec.ofChange sigsNoneWrong)

/-- 'landfalllaw08.SigsKnown': WHATEVER THE INPUT: true; the input reads as it did. -/
def sigsKnownSpec : ChangeSpec := { name := "sigsKnown", fn := fun _ => fun
  | [] => { results := [.lit (.bool true)], args := [] }
  | _ => none }
def sigsKnownRow : OpenClaim := { program := "ytagmnpeilgnbdaa", sum := "d67451d2e2722de294e4995e94c278258a4f215f25d3465938b821e7de2ce228", func := "landfall/landfalllaw08.SigsKnown", spec := "sigsKnown", inPlace := ["internal/bytealg.Compare"], unfollowed := true, recurses := true, plainKeys := false, apart := false }
def SigsKnownSaid : Prop := sigsKnownRow.holds Try.pinned (OpenSpec.ofChange sigsKnownSpec)

/-- ITS FALSE NEIGHBOUR: 'it returns false'. Refute it at one input. -/
def sigsKnownWrong : ChangeSpec := { name := "sigsKnown", fn := fun _ => fun
  | [] => { results := [.lit (.bool false)], args := [] }
  | _ => none }
def SigsKnownWrongFalsely : Prop := sigsKnownRow.holds Try.pinned (OpenSpec.ofChange sigsKnownWrong)

/-- 'landfalllaw08.SigsOrder': WHATEVER THE INPUT: true; the input reads as it did. -/
def sigsOrderSpec : ChangeSpec := { name := "sigsOrder", fn := fun _ => fun
  | [d1, d2] => { results := [.lit (.bool true)], args := [d1, d2] }
  | _ => none }
def sigsOrderRow : OpenClaim := { program := "ytagmnpeilgnbdaa", sum := "d67451d2e2722de294e4995e94c278258a4f215f25d3465938b821e7de2ce228", func := "landfall/landfalllaw08.SigsOrder", spec := "sigsOrder", inPlace := ["internal/bytealg.Compare"], unfollowed := true, recurses := true, plainKeys := false, apart := false }
def SigsOrderSaid : Prop := sigsOrderRow.holds Try.pinned (OpenSpec.ofChange sigsOrderSpec)

/-- ITS FALSE NEIGHBOUR: 'it returns false'. Refute it at one input. -/
def sigsOrderWrong : ChangeSpec := { name := "sigsOrder", fn := fun _ => fun
  | [d1, d2] => { results := [.lit (.bool false)], args := [d1, d2] }
  | _ => none }
def SigsOrderWrongFalsely : Prop := sigsOrderRow.holds Try.pinned (OpenSpec.ofChange sigsOrderWrong)

/-- 'landfalllaw08.SigsBack': WHATEVER THE INPUT: true; the input reads as it did. -/
def sigsBackSpec : ChangeSpec := { name := "sigsBack", fn := fun _ => fun
  | [d1, d2] => { results := [.lit (.bool true)], args := [d1, d2] }
  | _ => none }
def sigsBackRow : OpenClaim := { program := "ytagmnpeilgnbdaa", sum := "d67451d2e2722de294e4995e94c278258a4f215f25d3465938b821e7de2ce228", func := "landfall/landfalllaw08.SigsBack", spec := "sigsBack", inPlace := ["internal/bytealg.Compare"], unfollowed := true, recurses := true, plainKeys := false, apart := false }
def SigsBackSaid : Prop := sigsBackRow.holds Try.pinned (OpenSpec.ofChange sigsBackSpec)

/-- ITS FALSE NEIGHBOUR: 'it returns false'. Refute it at one input. -/
def sigsBackWrong : ChangeSpec := { name := "sigsBack", fn := fun _ => fun
  | [d1, d2] => { results := [.lit (.bool false)], args := [d1, d2] }
  | _ => none }
def SigsBackWrongFalsely : Prop := sigsBackRow.holds Try.pinned (OpenSpec.ofChange sigsBackWrong)

/- THE SECOND FORM. 'bulk': how many values and letters a reading holds, each counted each time it is reached (what is shared counts as often as it is met; a slice's spare places count too). A statement '..UptoSaid' is the law's where the arguments, and the package variables that the reading takes, are together of bulk at most 1048576: NARROWER than '..Said'. Prove '..Said' where nothing that the law and all that it calls make is longer than what came in: it says more and counts as full. Else prove '..UptoSaid'. A law counts once. -/
mutual
def uptoBulk {H : Type} : DataW H → Nat
  | .lit (.string bytes) => bytes.length + 1
  | .lit _ => 1
  | .nil => 1
  | .ptr d => uptoBulk d + 1
  | .slice elems spare => uptoBulkAll elems + uptoBulkAll spare + 1
  | .agg parts => uptoBulkAll parts + 1
  | .iface _ d => uptoBulk d + 1
  | .map entries => uptoBulkEntries entries + 1
  | .held _ => 1
def uptoBulkAll {H : Type} : List (DataW H) → Nat
  | [] => 0
  | d :: r => uptoBulk d + uptoBulkAll r
def uptoBulkEntries {H : Type} : List (Lit × DataW H) → Nat
  | [] => 0
  | x :: r => uptoBulkEntry x + uptoBulkEntries r
def uptoBulkEntry {H : Type} : Lit × DataW H → Nat
  | (.string bytes, d) => bytes.length + uptoBulk d + 1
  | (_, d) => uptoBulk d + 1
 end
def uptoSmall : (H : Type) → List (DataW H) → Bool := fun _ ds => decide (uptoBulkAll ds ≤ 1048576)
def OpenSpec.upto (s : _root_.Go.ChangeSpec) : _root_.Go.OpenSpec := { _root_.Go.OpenSpec.ofChange s with cond := some uptoSmall }

/-- 'landfalllaw08.SigsActs', WHERE WHAT IT READS IS OF BULK AT MOST 1048576: true; the input reads as it did. -/
def sigsActsUptoRow : OpenClaim := { program := "ytagmnpeilgnbdaa", sum := "d67451d2e2722de294e4995e94c278258a4f215f25d3465938b821e7de2ce228", func := "landfall/landfalllaw08.SigsActs", spec := "sigsActs", inPlace := ["internal/bytealg.Compare"], unfollowed := true, recurses := true, plainKeys := false, apart := false, narrowed := true }
def SigsActsUptoSaid : Prop := sigsActsUptoRow.holds Try.pinned (OpenSpec.upto sigsActsSpec)

/-- 'landfalllaw08.SigsNone', WHERE WHAT IT READS IS OF BULK AT MOST 1048576: true; the input reads as it did. -/
def sigsNoneUptoRow : OpenClaim := { program := "ytagmnpeilgnbdaa", sum := "d67451d2e2722de294e4995e94c278258a4f215f25d3465938b821e7de2ce228", func := "landfall/landfalllaw08.SigsNone", spec := "sigsNone", inPlace := ["internal/bytealg.Compare"], unfollowed := true, recurses := true, plainKeys := false, apart := false, narrowed := true }
def SigsNoneUptoSaid : Prop := sigsNoneUptoRow.holds Try.pinned (OpenSpec.upto sigsNoneSpec)

/-- 'landfalllaw08.SigsKnown', WHERE WHAT IT READS IS OF BULK AT MOST 1048576: true; the input reads as it did. -/
def sigsKnownUptoRow : OpenClaim := { program := "ytagmnpeilgnbdaa", sum := "d67451d2e2722de294e4995e94c278258a4f215f25d3465938b821e7de2ce228", func := "landfall/landfalllaw08.SigsKnown", spec := "sigsKnown", inPlace := ["internal/bytealg.Compare"], unfollowed := true, recurses := true, plainKeys := false, apart := false, narrowed := true }
def SigsKnownUptoSaid : Prop := sigsKnownUptoRow.holds Try.pinned (OpenSpec.upto sigsKnownSpec)

/-- 'landfalllaw08.SigsOrder', WHERE WHAT IT READS IS OF BULK AT MOST 1048576: true; the input reads as it did. -/
def sigsOrderUptoRow : OpenClaim := { program := "ytagmnpeilgnbdaa", sum := "d67451d2e2722de294e4995e94c278258a4f215f25d3465938b821e7de2ce228", func := "landfall/landfalllaw08.SigsOrder", spec := "sigsOrder", inPlace := ["internal/bytealg.Compare"], unfollowed := true, recurses := true, plainKeys := false, apart := false, narrowed := true }
def SigsOrderUptoSaid : Prop := sigsOrderUptoRow.holds Try.pinned (OpenSpec.upto sigsOrderSpec)

/-- 'landfalllaw08.SigsBack', WHERE WHAT IT READS IS OF BULK AT MOST 1048576: true; the input reads as it did. -/
def sigsBackUptoRow : OpenClaim := { program := "ytagmnpeilgnbdaa", sum := "d67451d2e2722de294e4995e94c278258a4f215f25d3465938b821e7de2ce228", func := "landfall/landfalllaw08.SigsBack", spec := "sigsBack", inPlace := ["internal/bytealg.Compare"], unfollowed := true, recurses := true, plainKeys := false, apart := false, narrowed := true }
def SigsBackUptoSaid : Prop := sigsBackUptoRow.holds Try.pinned (OpenSpec.upto sigsBackSpec)

end Rows
end Go.Proofs.Ytagmnpeilgnbdaa
