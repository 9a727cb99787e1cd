/- Contracts of the program's reader of bytes (wire), 6: copies. -/
import Derived.Test.YtbmpalbdbcjieaaGreatKBL3KH9
import Derived.Test.YtbmpalbdbcjieaaGreatVK
namespace Go.Proofs.YtbmpalbdbcjieaaGreat.K
open Go Go.Vm
set_option maxRecDepth 10000
set_option linter.unusedVariables false

theorem Clone_ok {h : Heap} {v : Value} {l : List UInt8} (hr : Rd h 1 v (bcells l) l.length) (hs : l.length < 1048576) :
    Runs Tryz.prog T0 (.fn fn_slices_Clone___byte_byte_) [v] h
      (fun r h' => Own h' 1 r (bcells l) l.length ∧ Fr (fun _ => False) h h' ∧ ∀ i, ownedBy r i → h.n ≤ i) (fun _ _ => False) := by
  have hnew := hr.new
  obtain ⟨a, cap, rfl, hlen, hc⟩ := hr
  refine slices_Clone___byte_byte__runs ?_
  cases a with
  | none =>
    have hl : l = [] := by
      cases l with
      | nil => rfl
      | cons b l => obtain ⟨_, _, _, h1, _⟩ := hc (by simp); cases h1
    subst hl
    refine stp ?_
    exact ⟨.none, Fr.refl, fun i hi => hi.elim⟩
  | some a =>
    refine stp ?_
    have hz : Own (h.push (.cells [] 0)) 1 (.slice (some ⟨h.n, 0, none⟩) 0 0) [] 0 := .lit (by simp) (by rw [Heap.get_push, if_pos rfl])
    have hnew' := ((Rd.keep (S := fun _ => False) ⟨some a, cap, rfl, hlen, hc⟩ (Fr.refl.push (o := .cells [] 0)) fun _ _ => id).new (size := 1)) [.int .u8 0]
    refine O.append hz hnew' hlen (bcells_one l) (by omega) (by omega) (by omega) (fun v' h' h1 h2 h3 => ?_)
    refine stp ?_
    rw [Nat.zero_add, List.nil_append] at h1
    refine ⟨h1, (Fr.refl.push (o := .cells [] 0)).trans (S := fun _ => False) h2 (fun i hi ho => ?_), fun i hi => ?_⟩
    · have : h.n = i := ho
      omega
    · rcases h3 i hi with h4 | h4
      · have : h.n = i := h4
        omega
      · simp at h4; omega
end Go.Proofs.YtbmpalbdbcjieaaGreat.K
