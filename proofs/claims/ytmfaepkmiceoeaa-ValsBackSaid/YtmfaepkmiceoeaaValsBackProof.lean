/-
  Proved: the function ValsBack returns true, whatever is handed in, whatever is drawn and in whatever order; what is handed in reads as it did.
  Conditions: none.
  How: each function that it calls is shown to do what it does on a small abstract machine (the texts ..Vm1 to ..Vm43 show that what the machine answers, the model answers).
-/
import Derived.Test.YtmfaepkmiceoeaaRows
import Derived.WalkKit
import Derived.ProofKit
import Derived.OpenShut
import Derived.Below
import Derived.Test.YtmfaepkmiceoeaaQValsBack2K
namespace Go.Proofs.Ytmfaepkmiceoeaa.valsBack
open Go Go.Vm Go.ChangeShapes Go.WideShapes Go.ChangeAt Go.RowKit
set_option linter.unusedVariables false

theorem own : ownKnob Try.prog.godebug = none := by kernel_rfl

theorem tiled : ([25, 3, 22] : List TypeId).all (Vm.tiles Try.prog 8) = true := by kernel_rfl

set_option maxRecDepth 100000 in
theorem run (h : Vm.Heap) (vs : List Value) (hf : Vm.FitsAll Try.prog h 8 [25, 3, 22] vs) : Vm.Runs Try.prog A.T0 (.fn 6) vs h (fun r _ => r = .bool true) (fun _ _ => False) :=
  A.ValsBack_run h vs hf

set_option maxRecDepth 100000 in
theorem lifted (os : Os) (started : os.Started) (H : Type) (enc : TypeId × Value → H) :
    ReturnsInHanded {} Try.checked os 6 .any (Rows.valsBackSpec.pre6 enc Try.prog Try.f6 Rows.valsBackRow.domain false) (Rows.valsBackSpec.post enc Try.prog Try.f6 false true false false) := by
  refine returnsInHanded_of_change (C := Try.checked) own started (by kernel_rfl) Try.func6
    (ChangeSpec.witness6 (enc := enc) (C := Try.checked) false ⟨#[], #[.slice none 0 0, .int .i64 0, .slice none 0 0], []⟩ 8 (by kernel_rfl) (by kernel_rfl) (by kernel_rfl) (by kernel_rfl)) ?_
  intro W base args ds gs before hval0 hW hcnd _
  have hval : ∀ (j : Nat) t v, Try.f6.params[j]? = some t → args[j]? = some v → Value.okWide Try.prog W .any base t v := hval0
  have hW' := hW
  obtain ⟨p, q, hA0, hV, rfl, hfz, hnd⟩ := hW
  have hA : DataW.TrodAll enc Try.prog W 0 (fun _ => true) true Try.f6.params.toList args.toList ds p := hA0
  obtain ⟨rfl, rfl⟩ := trodVars_none hV
  rw [Try.params6] at hA hval
  have hval : ∀ (j : Nat) t v, ([25, 3, 22] : List TypeId)[j]? = some t → args[j]? = some v → Value.okWide Try.prog W .any base t v := fun j t v hj hv => hval j t v (by simpa using hj) hv
  have hA : DataW.TrodAll enc Try.prog W 0 (fun _ => true) true ([25, 3, 22] : List TypeId) args.toList ds p := hA
  clear hA0 hval0
  have hA2 := hA
  obtain ⟨v1, vs1, d1, ds1, p1, q1, hv1, rfl, hp1, h1, g1⟩ := trodAll_cons hA2
  obtain ⟨v2, vs2, d2, ds2, p2, q2, hv2, rfl, hp2, h2, g2⟩ := trodAll_cons g1
  obtain ⟨v3, vs3, d3, ds3, p3, q3, hv3, rfl, hp3, h3, g3⟩ := trodAll_cons g2
  obtain ⟨hvs, rfl, hpe⟩ := trodAll_nil g3
  simp only [List.append_nil] at hW'
  refine (Vm.law_calls (Checked.mixed Try.checked) A.T0_ok (m := 8) tiled run hval hA).mono fun e W' ⟨he, hg⟩ => ?_
  subst he
  refine ⟨_, rfl, Vm.post_below (pa := p) (pv := []) hW' (fun _ _ _ => (trodAll_cons_mk (shut_bool Try.underlying4 _) trodAll_mk0)) (fun sp hsp => ?_) (fun _ _ => rfl) (by simp) hg (ok_one (by kernel_rfl) rfl (okWide_bool_mk Try.underlying4 _))⟩
  rw [Try.params6]
  exact Vm.law_args tiled hA hg sp hsp

theorem over : Rows.valsBackRow.holds Try.pinned (OpenSpec.ofChange Rows.valsBackSpec) :=
  OpenClaim.holds_of_wide 6 Try.f6 rfl rfl rfl rfl rfl rfl rfl ⟨rfl, rfl, rfl, rfl, rfl⟩ rfl rfl rfl rfl rfl (by kernel_rfl) Try.func6 (by kernel_rfl)
    (of_decide_eq_true (by kernel_rfl)) (by unfold Func.isWrapper; first | (rw [if_pos (by decide +kernel)]; kernel_rfl) | (rw [if_neg (by decide +kernel)]; exact ⟨rfl, rfl⟩))
    (fun os started H enc _ => lifted os started H enc)

theorem proved : Rows.ValsBackSaid :=
  over
#print axioms proved
end Go.Proofs.Ytmfaepkmiceoeaa.valsBack
