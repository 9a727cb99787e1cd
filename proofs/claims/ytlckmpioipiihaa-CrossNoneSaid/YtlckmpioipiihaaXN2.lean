/- CrossNone: loops over no witnesses. -/
import Derived.Test.YtlckmpioipiihaaXN
import Derived.Test.YtlckmpioipiihaaVK
namespace Go.Proofs.Ytlckmpioipiihaa.A
open Go Go.Vm
set_option maxRecDepth 10000
set_option linter.unusedVariables false

abbrev zB : List Value := .string ⟨⟨[]⟩⟩ :: .int .i64 0 :: .int .i64 0 :: (z32 ++ (z32 ++ (z32 ++ (z32 ++ (.int .i64 0 :: (z32 ++ [.slice none 0 0, .slice none 0 0]))))))
theorem all_ok {h : Heap} {w : Value} [CellsOf w [w]] : Runs Try.prog T0 (.fn fn_cross_Cross_all) [w] h (fun r h' => r = .func (.func 33) ⟨[]⟩ ⟨[.pointer (some ⟨h.n, 0, none⟩)]⟩ ∧ h' = h.push (.cells [w] 0)) (fun _ _ => False) := by
  refine cross_Cross_all_runs ?_
  refine stpD ?_
  exact ⟨rfl, rfl⟩
theorem all1_ok {h : Heap} {w y : Value} {q : Nat} (hg : h.get q = .cells [w] 0) (hq : q < h.n) (hw : NoC h w) : Runs Try.prog T0 (.fn fn_cross_Cross_all_1) [y, .pointer (some ⟨q, 0, none⟩)] h (fun r h' => Fr (fun _ => False) h h') (fun _ _ => False) := by
  haveI : HGet h q _ := ⟨hg⟩
  haveI : BLt q h := ⟨hq⟩
  refine cross_Cross_all_1_runs ?_
  refine stpD ?_
  refine O.call' (off_ok hw) (fun r h1 hr => ?_)
  obtain ⟨rfl, rfl⟩ := hr
  refine stpD ?_
  exact Fr.refl
theorem All_ok {h : Heap} {w : Value} {x : Int} (hw : NoC h w) : Runs Try.prog T0 (.fn fn_cross_Cross_All) [w, .int .i64 x] h (fun r h' => r = .slice none 0 0 ∧ Fr (fun _ => False) h h') (fun _ _ => False) := by
  haveI : CellsOf w [w] := by rcases hw with rfl | ⟨b, _, rfl, _⟩ <;> infer_instance
  refine cross_Cross_All_runs ?_
  refine stpD ?_
  refine O.call' all_ok (fun r h1 hr => ?_)
  obtain ⟨rfl, rfl⟩ := hr
  refine O.nil ?_
  refine C.next ?_
  refine RunC.block ?_
  apply range_quiet (fid := 33) (first := []) (captured := [.pointer (some ⟨((h.push (.cells [Value.int IntKind.i64 x] 0)).push (.cells [Value.slice none 0 0] 0)).n, 0, none⟩)])
  case hf => rfl
  case hr =>
    refine all1_ok (w := w) ?_ ?_ ?_
    · simp [Heap.get_push]
    · simp
    · exact hw.keep (Fr.trans (S := fun _ => False) Fr.refl.push.push.push Fr.refl.push.push fun _ _ h => h)
  case hq =>
    intro h' hf
    haveI g1 : HGet h' (h.push (.cells [.int .i64 x] 0)).n (.cells [.slice none 0 0] 0) := hf.keep inferInstance (by simp) id
    haveI : BLt (h.push (.cells [.int .i64 x] 0)).n h' := ⟨hf.lt (by simp)⟩
    haveI g2 : HGet h' (((h.push (.cells [.int .i64 x] 0)).push (.cells [.slice none 0 0] 0)).push (.cells [w] 0)).n (.defs false) := hf.keep inferInstance (by simp) id
    refine stpD ?_
    refine B.retC ?_
    have hF : Fr (fun _ => False) h h' := Fr.trans' Fr.refl.push.push.push.push hf
    exact ⟨rfl, (hF.set fun h => by simp at h; omega).set fun h => by simp at h; omega⟩
theorem Evidence_ok {h : Heap} {w : Value} (hw : NoC h w) : Runs Try.prog T0 (.fn fn_cross_Cross_Evidence) [w] h (fun r h' => r = .tuple ⟨[.int .i64 (-1), .agg ⟨zB⟩, .bool false]⟩ ∧ Fr (fun _ => False) h h') (fun _ _ => False) := by
  haveI : CellsOf w [w] := by rcases hw with rfl | ⟨b, _, rfl, _⟩ <;> infer_instance
  refine cross_Cross_Evidence_runs ?_
  refine stpD ?_
  refine O.call' all_ok (fun r h1 hr => ?_)
  obtain ⟨rfl, rfl⟩ := hr
  refine O.nil ?_
  refine C.next ?_
  refine RunC.block ?_
  apply range_quiet (fid := 33) (first := [])
  case hf => rfl
  case hr =>
    refine all1_ok (w := w) ?_ ?_ ?_
    · simp [Heap.get_push]
    · simp
    · exact hw.keep (by repeat (first | exact Fr.refl | refine Fr.push ?_))
  case hq =>
    intro h' hf
    haveI g0 := hf.keep (b := h.n) inferInstance (by simp; omega) id
    haveI g1 := hf.keep (b := (h.push (.cells [.int .i64 0] 0)).n) inferInstance (by simp) id
    haveI g2 := hf.keep (b := ((h.push (.cells [.int .i64 0] 0)).push (.cells zB 0)).n) inferInstance (by simp) id
    haveI g3 := hf.keep (b := ((((h.push (.cells [.int .i64 0] 0)).push (.cells zB 0)).push (.cells [.bool false] 0)).push (.cells [w] 0)).n) inferInstance (by simp) id
    haveI : BLt h.n h' := ⟨hf.lt (by simp; omega)⟩
    haveI : BLt (h.push (.cells [.int .i64 0] 0)).n h' := ⟨hf.lt (by simp)⟩
    haveI : BLt ((h.push (.cells [.int .i64 0] 0)).push (.cells zB 0)).n h' := ⟨hf.lt (by simp)⟩
    haveI : BLt ((((h.push (.cells [.int .i64 0] 0)).push (.cells zB 0)).push (.cells [.bool false] 0)).push (.cells [w] 0)).n h' := ⟨hf.lt (by simp)⟩
    haveI : BNe h.n (h.push (.cells [.int .i64 0] 0)).n := ⟨by simp⟩
    haveI : BNe (h.push (.cells [.int .i64 0] 0)).n h.n := ⟨by simp⟩
    refine stpD ?_
    refine B.retC ?_
    have hF : Fr (fun _ => False) h h' := Fr.trans' (by repeat (first | exact Fr.refl | refine Fr.push ?_)) hf
    exact ⟨rfl, ((((hF.set fun h => by simp at h).set fun h => by simp at h; omega).set fun h => by simp at h; omega).set fun h => by simp at h; omega)⟩
end Go.Proofs.Ytlckmpioipiihaa.A
