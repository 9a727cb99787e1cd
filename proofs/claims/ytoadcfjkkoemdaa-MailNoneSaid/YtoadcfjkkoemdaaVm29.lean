/- A small machine over an abstract heap: what its runs say of the model. -/
import Derived.Test.YtoadcfjkkoemdaaVm28
set_option linter.unusedSimpArgs false
namespace Go.Vm
open Go.RowKit

section
variable {P : Program}

/-- every function of a program, as the machine has it -/
def tableOf (P : Program) : Table := fun f => (P.funcs[f]?).bind (compFunc P)

theorem compFunc_prim {fn : Func} {af : AFunc} (h : compFunc P fn = some af) : af.prim = none := by
  unfold compFunc at h
  split at h
  · cases h
  · split at h
    · cases h
    · split at h
      · cases h; rfl
      · cases h

theorem tableOf_ok : TableOK P (tableOf P) := by
  intro f af h
  unfold tableOf at h
  cases hf : P.funcs[f]? with
  | none => rw [hf] at h; cases h
  | some fn =>
    rw [hf] at h
    have h : compFunc P fn = some af := h
    rw [compFunc_prim h]
    exact ⟨fn, rfl, h⟩

theorem hr_init (w : World) : HR [none] Heap.init w.heap.size w w where
  len := rfl
  alive := fun i x h => by
    cases i with
    | zero => simp at h
    | succ i => simp at h
  inj := fun i j x y _ h => by
    cases i with
    | zero => simp at h
    | succ i => simp at h
  dead := fun i _ => Heap.get_init i
  below := Below.refl _ _
  base := Nat.le_refl _
  zero := rfl

/-- a run of the machine is the model's -/
theorem run_calls (hm : P.follows .mixedOrders = true) {T : Table} (hT : TableOK P T) {L n : Nat} {f : FuncId} {args : List Value} (hgr : groundL args = true) (hg : ∀ o ∈ xcall P T L n (.fn f) args Heap.init, o ≠ .bad) (w : World) :
    Calls P f ⟨args⟩ w (CPost w.heap.size w [none] (xcall P T L n (.fn f) args Heap.init)) :=
  ((xcall_sound hT L (fun _ hc _ _ => draws_ok hm hc) n).2 f args args [none] Heap.init w.heap.size w w (hr_init w) (VRL.of_ground hgr) hg).2

def allTrue (l : List CO) : Bool := l.all fun | .ret (.bool true) _ => true | _ => false

/-- a function of nothing that comes to true, in whatever order and whatever is drawn -/
theorem known_calls (hm : P.follows .mixedOrders = true) {T : Table} (hT : TableOK P T) {L n : Nat} {f : FuncId} (h : allTrue (xcall P T L n (.fn f) [] Heap.init) = true) (w : World) :
    Calls P f #[] w fun e w' => e = .returned (.bool true) ∧ Below w.heap.size w w' := by
  have hall := fun o ho => List.all_eq_true.1 h o ho
  refine (run_calls hm hT (L := L) (n := n) (args := []) rfl (fun o ho hb => ?_) w).mono fun e w' he => ?_
  · have := hall o ho
    rw [hb] at this
    cases this
  · cases e with
    | returned v =>
      obtain ⟨g', u, h', hm, _, hr, hv⟩ := he
      have hu := hall _ hm
      have : u = .bool true := by
        cases u with
        | bool b => cases b with
          | true => rfl
          | false => cases hu
        | _ => cases hu
      subst this
      rw [hv.bool]
      exact ⟨rfl, hr.below⟩
    | panicked c =>
      obtain ⟨g', u, h', hm, _⟩ := he
      cases hall _ hm
    | outgrown => exact he.elim

end
end Go.Vm
