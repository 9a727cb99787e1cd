/- A small machine over an abstract heap: the statement of a function that comes to true. -/
import Derived.Test.YtoadcfjkkoemdaaVm39
set_option linter.unusedSimpArgs false
set_option linter.unusedVariables false
namespace Go.Vm
open Go.ChangeShapes Go.WideShapes Go.RowKit

section
variable {H : Type} {enc : TypeId × Value → H} {P : Program} {w w' : World}

/-- a function that comes to true whatever is handed in: so does the model's -/
theorem law_calls (hm : P.follows .mixedOrders = true) {T : Table} (hT : TableOK P T) {m base : Nat} {f : FuncId} {ts : List TypeId} (ht : ts.all (tiles P m) = true)
    (hrun : ∀ (h : Heap) (vs : List Value), FitsAll P h m ts vs → Runs P T (.fn f) vs h (fun r _ => r = .bool true) (fun _ _ => False))
    {args : Array Value} {ds : List (DataW H)} {p : List MemPlace} (hok : ∀ (j : Nat) t v, ts[j]? = some t → args[j]? = some v → Value.okWide P w .any base t v)
    (hA : DataW.TrodAll enc P w 0 (fun _ => true) true ts args.toList ds p) : Calls P f args w fun e w' => e = .returned (.bool true) ∧ Below w.heap.size w w' := by
  obtain ⟨g, h, us, _, hr, _, hf, hv⟩ := read_all ht (fun j t v hj hv => hok j t v hj (by simpa using hv)) hA (hr_init w)
  refine (calls_of_runs hm hT (args' := args.toList) hr hv (hrun h us hf)).mono fun e w' he => ?_
  cases e with
  | returned v =>
    obtain ⟨g', u, h', rfl, _, hr', hv'⟩ := he
    rw [hv'.bool]
    exact ⟨rfl, hr'.below⟩
  | panicked c =>
    obtain ⟨g', c, h', hx, _⟩ := he
    exact hx.elim
  | outgrown => exact he.elim

/-- what was handed in reads as it did -/
theorem law_args {m : Nat} {ts : List TypeId} (ht : ts.all (tiles P m) = true) {vs : List Value} {ds : List (DataW H)} {p : List MemPlace} (hA : DataW.TrodAll enc P w 0 (fun _ => true) true ts vs ds p) (hb : Below w.heap.size w w') (sp : Nat → Bool)
    (hs : ∀ q ∈ p, sp q.block = true) : DataW.TrodAll enc P w' 0 sp true ts vs ds p := by
  refine trodAll_again ht hA fun q hq => ⟨?_, hs q hq⟩
  have hlt := hA.lt q hq
  cases q with
  | cell b off =>
    show w'.cell? ⟨b, off, none⟩ = w.cell? ⟨b, off, none⟩
    unfold World.cell?
    rw [hb.block b hlt]
  | map b => exact hb.block b hlt

end
end Go.Vm
