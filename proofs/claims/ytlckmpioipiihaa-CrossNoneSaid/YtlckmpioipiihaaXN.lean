/- CrossNone: no cross-check has no witnesses. -/
import Derived.Test.YtlckmpioipiihaaM25
import Derived.Test.YtlckmpioipiihaaVJ
import Derived.Test.YtlckmpioipiihaaVK
namespace Go.Proofs.Ytlckmpioipiihaa.A
open Go Go.Vm
set_option maxRecDepth 10000
set_option linter.unusedVariables false

/-- no cross-check, or one that was never made -/
def NoC (h : Heap) (w : Value) : Prop := w = .pointer none ∨ ∃ b, b < h.n ∧ w = .pointer (some ⟨b, 0, none⟩) ∧ ∃ c, h.get b = .cells c 0 ∧ cellsAt h b 2704 1 = some [.bool false]
theorem NoC.keep {h h' : Heap} {w : Value} (hw : NoC h w) (hf : Fr (fun _ => False) h h') : NoC h' w := by
  rcases hw with rfl | ⟨b, hb, rfl, c, hg, hc⟩
  · exact .inl rfl
  · exact .inr ⟨b, hf.lt hb, rfl, c, by rw [hf.get b hb id, hg], by rw [← hc]; simp only [cellsAt, hf.get b hb id]⟩

theorem off_ok {h : Heap} {w : Value} (hw : NoC h w) : Runs Try.prog T0 (.fn fn_cross_Cross_off) [w] h (fun r h' => r = .bool true ∧ h' = h) (fun _ _ => False) := by
  rcases hw with rfl | ⟨b, hb, rfl, c, hg, hc⟩
  · refine cross_Cross_off_runs ?_
    refine stpD ?_
    exact ⟨rfl, rfl⟩
  · haveI : HGet h b _ := ⟨hg⟩
    haveI : Cell h b 2704 (.bool false) := ⟨hc⟩
    haveI : BLt b h := ⟨hb⟩
    refine cross_Cross_off_runs ?_
    refine stpD ?_
    exact ⟨rfl, rfl⟩
theorem may_ok {h : Heap} {w : Value} {x : Int} (hw : NoC h w) : Runs Try.prog T0 (.fn fn_cross_Cross_may) [w, .int .i64 x] h (fun r h' => r = .int .i64 1 ∧ h' = h) (fun _ _ => False) := by
  refine cross_Cross_may_runs ?_
  refine stpD ?_
  refine O.call' (off_ok hw) (fun r h1 hr => ?_)
  obtain ⟨rfl, rfl⟩ := hr
  refine stpD ?_
  exact ⟨rfl, rfl⟩
theorem Leave_ok {h : Heap} {w : Value} {x : Int} (hw : NoC h w) : Runs Try.prog T0 (.fn fn_cross_Cross_Leave) [w, .int .i64 x] h (fun r h' => r = .int .i64 1 ∧ h' = h) (fun _ _ => False) := by
  refine cross_Cross_Leave_runs ?_
  refine stpD ?_
  refine O.call' (may_ok hw) (fun r h1 hr => ?_)
  obtain ⟨rfl, rfl⟩ := hr
  refine stpD ?_
  exact ⟨rfl, rfl⟩
theorem Result_ok {h : Heap} {w : Value} (hw : NoC h w) : Runs Try.prog T0 (.fn fn_cross_Cross_Result) [w] h (fun r h' => r = .int .i64 0 ∧ h' = h) (fun _ _ => False) := by
  refine cross_Cross_Result_runs ?_
  refine stpD ?_
  refine O.call' (off_ok hw) (fun r h1 hr => ?_)
  obtain ⟨rfl, rfl⟩ := hr
  refine stpD ?_
  exact ⟨rfl, rfl⟩
theorem State_ok {h : Heap} {w : Value} {x : Int} (hw : NoC h w) : Runs Try.prog T0 (.fn fn_cross_Cross_State) [w, .int .i64 x] h (fun r h' => r = .int .i64 0 ∧ h' = h) (fun _ _ => False) := by
  refine cross_Cross_State_runs ?_
  refine stpD ?_
  refine O.call' (off_ok hw) (fun r h1 hr => ?_)
  obtain ⟨rfl, rfl⟩ := hr
  refine stpD ?_
  exact ⟨rfl, rfl⟩
theorem Say_ok {h : Heap} {w : Value} {x : Int} {c : List Value} (hw : NoC h w) : Runs Try.prog T0 (.fn fn_cross_Cross_Say) [w, .int .i64 x, .agg ⟨c⟩] h (fun r h' => r = .int .i64 1 ∧ Fr (fun _ => False) h h') (fun _ _ => False) := by
  refine cross_Cross_Say_runs ?_
  refine stpD ?_
  refine O.call' (may_ok (hw.keep Fr.refl.push)) (fun r h1 hr => ?_)
  obtain ⟨rfl, rfl⟩ := hr
  refine stpD ?_
  exact ⟨rfl, Fr.refl.push⟩
end Go.Proofs.Ytlckmpioipiihaa.A
