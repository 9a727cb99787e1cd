/-
  Proved: the function SigsDecodes returns true, whatever is handed in, whatever is drawn and in whatever order; what is handed in reads as it did.
  Conditions: none.
  How: each function that it calls is shown to do what it does on a small abstract machine (the texts ..Vm1 to ..Vm43 show that what the machine answers, the model answers).
-/
import Derived.Test.YtagmnpeilgnbdaaGreatRows
import Derived.WalkKit
import Derived.ProofKit
import Derived.OpenShut
import Derived.Below
import Derived.Test.YtagmnpeilgnbdaaGreatQSigsDecodes4
namespace Go.Proofs.YtagmnpeilgnbdaaGreat.sigsDecodes
open Go Go.Vm Go.ChangeShapes Go.WideShapes Go.ChangeAt Go.RowKit
set_option linter.unusedVariables false

theorem own : ownKnob Tryz.prog.godebug = none := by kernel_rfl

theorem tiled : ([22, 29] : List TypeId).all (Vm.tiles Tryz.prog 8) = true := by kernel_rfl

set_option maxRecDepth 100000 in
theorem run (h : Vm.Heap) (vs : List Value) (hf : Vm.FitsAll Tryz.prog h 8 [22, 29] vs) : Vm.Runs Tryz.prog A.T0 (.fn 3) vs h (fun r _ => r = .bool true) (fun _ _ => False) :=
  A.SigsDecodes_run h vs hf

set_option maxRecDepth 100000 in
theorem lifted (os : Os) (started : os.Started) (H : Type) (enc : TypeId × Value → H) :
    ReturnsInHanded {} Tryz.checked os 3 .any (Rows.sigsDecodesSpec.pre6 enc Tryz.prog Tryz.f3 Rows.sigsDecodesRow.domain false) (Rows.sigsDecodesSpec.post enc Tryz.prog Tryz.f3 false true false false) := by
  refine returnsInHanded_of_change (C := Tryz.checked) own started (by kernel_rfl) Tryz.func3
    (ChangeSpec.witness6 (enc := enc) (C := Tryz.checked) false ⟨#[], #[.slice none 0 0, .agg #[.int .u8 0, .int .u8 0, .int .u8 0, .int .u8 0, .int .u8 0, .int .u8 0, .int .u8 0, .int .u8 0, .int .u8 0, .int .u8 0, .int .u8 0, .int .u8 0, .int .u8 0, .int .u8 0, .int .u8 0, .int .u8 0, .int .u8 0, .int .u8 0, .int .u8 0, .int .u8 0, .int .u8 0, .int .u8 0, .int .u8 0, .int .u8 0, .int .u8 0, .int .u8 0, .int .u8 0, .int .u8 0, .int .u8 0, .int .u8 0, .int .u8 0, .int .u8 0, .int .u8 0, .int .u8 0, .int .u8 0, .int .u8 0, .int .u64 0]], []⟩ 8 (by kernel_rfl) (by kernel_rfl) (by kernel_rfl) (by kernel_rfl)) ?_
  intro W base args ds gs before hval0 hW hcnd _
  have hval : ∀ (j : Nat) t v, Tryz.f3.params[j]? = some t → args[j]? = some v → Value.okWide Tryz.prog W .any base t v := hval0
  have hW' := hW
  obtain ⟨p, q, hA0, hV, rfl, hfz, hnd⟩ := hW
  have hA : DataW.TrodAll enc Tryz.prog W 0 (fun _ => true) true Tryz.f3.params.toList args.toList ds p := hA0
  obtain ⟨rfl, rfl⟩ := trodVars_none hV
  rw [Tryz.params3] at hA hval
  have hval : ∀ (j : Nat) t v, ([22, 29] : List TypeId)[j]? = some t → args[j]? = some v → Value.okWide Tryz.prog W .any base t v := fun j t v hj hv => hval j t v (by simpa using hj) hv
  have hA : DataW.TrodAll enc Tryz.prog W 0 (fun _ => true) true ([22, 29] : List TypeId) args.toList ds p := hA
  clear hA0 hval0
  have hA2 := hA
  obtain ⟨v1, vs1, d1, ds1, p1, q1, hv1, rfl, hp1, h1, g1⟩ := trodAll_cons hA2
  obtain ⟨v2, vs2, d2, ds2, p2, q2, hv2, rfl, hp2, h2, g2⟩ := trodAll_cons g1
  obtain ⟨hvs, rfl, hpe⟩ := trodAll_nil g2
  simp only [List.append_nil] at hW'
  refine (Vm.law_calls (Checked.mixed Tryz.checked) A.T0_ok (m := 8) tiled run hval hA).mono fun e W' ⟨he, hg⟩ => ?_
  subst he
  refine ⟨_, rfl, Vm.post_below (pa := p) (pv := []) hW' (fun _ _ _ => (trodAll_cons_mk (shut_bool Tryz.underlying4 _) trodAll_mk0)) (fun sp hsp => ?_) (fun _ _ => rfl) (by simp) hg (ok_one (by kernel_rfl) rfl (okWide_bool_mk Tryz.underlying4 _))⟩
  rw [Tryz.params3]
  exact Vm.law_args tiled hA hg sp hsp

theorem over : Rows.sigsDecodesRow.holds Tryz.pinned (OpenSpec.ofChange Rows.sigsDecodesSpec) :=
  OpenClaim.holds_of_wide 3 Tryz.f3 rfl rfl rfl rfl rfl rfl rfl ⟨rfl, rfl, rfl, rfl, rfl⟩ rfl rfl rfl rfl rfl (by kernel_rfl) Tryz.func3 (by kernel_rfl)
    (of_decide_eq_true (by kernel_rfl)) (by unfold Func.isWrapper; first | (rw [if_pos (by decide +kernel)]; kernel_rfl) | (rw [if_neg (by decide +kernel)]; exact ⟨rfl, rfl⟩))
    (fun os started H enc _ => lifted os started H enc)

theorem proved : Rows.SigsDecodesSaid :=
  over
#print axioms proved
end Go.Proofs.YtagmnpeilgnbdaaGreat.sigsDecodes
