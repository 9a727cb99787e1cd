/- StoreNone: no store has nothing. -/
import Derived.Test.YtmhnddkpiefkhaaM22
import Derived.Test.YtmhnddkpiefkhaaVJ
import Derived.Test.YtmhnddkpiefkhaaVK
namespace Go.Proofs.Ytmhnddkpiefkhaa.A
open Go Go.Vm
set_option maxRecDepth 10000
set_option linter.unusedVariables false

/-- a block of nothing -/
abbrev zB : List Value := .string ⟨⟨[]⟩⟩ :: .int .i64 0 :: .int .i64 0 :: (z32 ++ (z32 ++ (z32 ++ (z32 ++ (.int .i64 0 :: (z32 ++ [.slice none 0 0, .slice none 0 0]))))))

/-- no store, or one that was never made -/
def NoS (h : Heap) (w : Value) : Prop := w = .pointer none ∨ ∃ b, b < h.n ∧ w = .pointer (some ⟨b, 0, none⟩) ∧ h.get b = .cells [.int .i64 0, .map none] 0
theorem NoS.keep {h h' : Heap} {w : Value} (hw : NoS h w) (hf : Fr (fun _ => False) h h') : NoS h' w := by
  rcases hw with rfl | ⟨b, hb, rfl, hg⟩
  · exact .inl rfl
  · exact .inr ⟨b, hf.lt hb, rfl, by rw [hf.get b hb id, hg]⟩

theorem none_ok {h : Heap} {w : Value} (hw : NoS h w) : Runs Try.prog T0 (.fn fn_store_Store_none) [w] h (fun r h' => r = .bool true ∧ h' = h) (fun _ _ => False) := by
  rcases hw with rfl | ⟨b, hb, rfl, hg⟩
  · refine store_Store_none_runs ?_
    refine stpD ?_
    exact ⟨rfl, rfl⟩
  · haveI : HGet h b _ := ⟨hg⟩
    refine store_Store_none_runs ?_
    refine stpD ?_
    exact ⟨rfl, rfl⟩
theorem with_ok {h : Heap} {w : Value} {x : Int} {f : Value} (hw : NoS h w) : Runs Try.prog T0 (.fn fn_store_Store_with) [w, .int .i64 x, f] h (fun r h' => r = .int .i64 1 ∧ h' = h) (fun _ _ => False) := by
  refine store_Store_with_runs ?_
  refine stpD ?_
  refine O.call' (none_ok hw) (fun r h1 hr => ?_)
  obtain ⟨rfl, rfl⟩ := hr
  refine stpD ?_
  exact ⟨rfl, rfl⟩
theorem List_ok {h : Heap} {w : Value} (hw : NoS h w) : Runs Try.prog T0 (.fn fn_store_Store_List) [w] h (fun r h' => r = .slice none 0 0 ∧ h' = h) (fun _ _ => False) := by
  refine store_Store_List_runs ?_
  refine stpD ?_
  refine O.call' (none_ok hw) (fun r h1 hr => ?_)
  obtain ⟨rfl, rfl⟩ := hr
  refine stpD ?_
  exact ⟨rfl, rfl⟩
theorem Room_ok {h : Heap} {w : Value} (hw : NoS h w) : Runs Try.prog T0 (.fn fn_store_Store_Room) [w] h (fun r h' => r = .int .i64 0 ∧ h' = h) (fun _ _ => False) := by
  refine store_Store_Room_runs ?_
  refine stpD ?_
  refine O.call' (none_ok hw) (fun r h1 hr => ?_)
  obtain ⟨rfl, rfl⟩ := hr
  refine stpD ?_
  exact ⟨rfl, rfl⟩
theorem Pin_ok {h : Heap} {w : Value} {x : Int} {b : Bool} (hw : NoS h w) : Runs Try.prog T0 (.fn fn_store_Store_Pin) [w, .int .i64 x, .bool b] h (fun r h' => r = .int .i64 1 ∧ Fr (fun _ => False) h h') (fun _ _ => False) := by
  refine store_Store_Pin_runs ?_
  refine stpD ?_
  refine O.call' (with_ok (hw.keep Fr.refl.push)) (fun r h1 hr => ?_)
  obtain ⟨rfl, rfl⟩ := hr
  refine stpD ?_
  exact ⟨rfl, Fr.refl.push⟩
theorem Verify_ok {h : Heap} {w : Value} {x : Int} (hw : NoS h w) : Runs Try.prog T0 (.fn fn_store_Store_Verify) [w, .int .i64 x] h (fun r h' => r = .int .i64 1 ∧ h' = h) (fun _ _ => False) := by
  refine store_Store_Verify_runs ?_
  refine stpD ?_
  refine O.call' (with_ok hw) (fun r h1 hr => ?_)
  obtain ⟨rfl, rfl⟩ := hr
  refine stpD ?_
  exact ⟨rfl, rfl⟩
theorem Clear_ok {h : Heap} {w : Value} {x : Int} (hw : NoS h w) : Runs Try.prog T0 (.fn fn_store_Store_Clear) [w, .int .i64 x] h (fun r h' => Fr (fun _ => False) h h') (fun _ _ => False) := by
  refine store_Store_Clear_runs ?_
  refine stpD ?_
  refine O.call' (none_ok (hw.keep Fr.refl.push)) (fun r h1 hr => ?_)
  obtain ⟨rfl, rfl⟩ := hr
  refine stpD ?_
  exact Fr.refl.push
theorem Get_ok {h : Heap} {w : Value} {x : Int} (hw : NoS h w) : Runs Try.prog T0 (.fn fn_store_Store_Get) [w, .int .i64 x] h (fun r h' => r = .tuple ⟨[.agg ⟨zB⟩, .bool false]⟩ ∧ Fr (fun _ => False) h h') (fun _ _ => False) := by
  refine store_Store_Get_runs ?_
  refine stpD ?_
  refine O.call' (none_ok (hw.keep Fr.refl.push)) (fun r h1 hr => ?_)
  obtain ⟨rfl, rfl⟩ := hr
  refine stpD ?_
  exact ⟨rfl, Fr.refl.push⟩
theorem Below_ok {h : Heap} {w : Value} {x : Int} (hw : NoS h w) : Runs Try.prog T0 (.fn fn_store_Store_Below) [w, .int .i64 x] h (fun r h' => r = .tuple ⟨[.agg ⟨zB⟩, .bool false]⟩ ∧ Fr (fun _ => False) h h') (fun _ _ => False) := by
  refine store_Store_Below_runs ?_
  refine stpD ?_
  refine O.call' (none_ok (hw.keep Fr.refl.push)) (fun r h1 hr => ?_)
  obtain ⟨rfl, rfl⟩ := hr
  refine stpD ?_
  exact ⟨rfl, Fr.refl.push⟩
theorem Put_ok {h : Heap} {w : Value} {c : List Value} (hw : NoS h w) : Runs Try.prog T0 (.fn fn_store_Store_Put) [w, .agg ⟨c⟩] h (fun r h' => r = .tuple ⟨[.int .i64 0, .int .i64 1]⟩ ∧ Fr (fun _ => False) h h') (fun _ _ => False) := by
  refine store_Store_Put_runs ?_
  refine stpD ?_
  refine O.call' (none_ok (hw.keep Fr.refl.push)) (fun r h1 hr => ?_)
  obtain ⟨rfl, rfl⟩ := hr
  refine stpD ?_
  exact ⟨rfl, Fr.refl.push⟩

theorem SameVotes_nil {h : Heap} : Runs Try.prog T0 (.fn fn_landfallkit_SameVotes) [.slice none 0 0, .slice none 0 0] h (fun r h' => r = .bool true ∧ h' = h) (fun _ _ => False) := by
  refine landfallkit_SameVotes_runs ?_
  refine stpD ?_
  refine landfallkit_SameVotes_l0_rule (fun m v5 v6 h' => v6 = .int .i64 0 ∧ v5 = .bool true ∧ h' = h) ?_ 0 ⟨rfl, rfl, rfl⟩
  rintro m v5 v6 h' x12 x13 x14 x15 x16 x17 x18 x19 x20 x21 x22 x23 x24 x25 x26 x27 x28 x29 ⟨rfl, rfl, rfl⟩
  refine stpD ?_
  exact ⟨rfl, rfl⟩
theorem SameVals_nil {h : Heap} : Runs Try.prog T0 (.fn fn_landfallkit_SameVals) [.slice none 0 0, .slice none 0 0] h (fun r h' => r = .bool true ∧ h' = h) (fun _ _ => False) := by
  refine landfallkit_SameVals_runs ?_
  refine stpD ?_
  refine landfallkit_SameVals_l0_rule (fun m v5 v6 h' => v6 = .int .i64 0 ∧ v5 = .bool true ∧ h' = h) ?_ 0 ⟨rfl, rfl, rfl⟩
  rintro m v5 v6 h' x12 x13 x14 x15 x16 x17 x18 x19 x20 x21 x22 x23 x24 x25 x26 x27 x28 x29 ⟨rfl, rfl, rfl⟩
  refine stpD ?_
  exact ⟨rfl, rfl⟩
theorem SameCommit_zero {h : Heap} :
    Runs Try.prog T0 (.fn fn_landfallkit_SameCommit) [.agg ⟨.int .i64 0 :: (z32 ++ [.slice none 0 0])⟩, .agg ⟨.int .i64 0 :: (z32 ++ [.slice none 0 0])⟩] h (fun r h' => r = .bool true ∧ Fr (fun _ => False) h h') (fun _ _ => False) := by
  refine landfallkit_SameCommit_runs ?_
  refine stpD ?_
  rw [same_self]
  refine stpD ?_
  refine O.callT SameVotes_nil (fun r h1 hr => ?_)
  obtain ⟨rfl, rfl⟩ := hr
  refine stpD ?_
  simp only [eq_self, decide_true, if_true]
  refine stpD ?_
  exact ⟨rfl, Fr.refl.push.push⟩
theorem SameBlock_zero {h : Heap} :
    Runs Try.prog T0 (.fn fn_landfallkit_SameBlock) [.agg ⟨zB⟩, .agg ⟨zB⟩] h (fun r h' => r = .bool true ∧ Fr (fun _ => False) h h') (fun _ _ => False) := by
  refine landfallkit_SameBlock_runs ?_
  refine stpD ?_
  generalize hh0 : (h.push (.cells zB 0)).push (.cells zB 0) = h0
  generalize hb : (h.push (.cells zB 0)).n = b
  have hf0 : Fr (fun _ => False) h h0 := by rw [← hh0]; exact Fr.refl.push.push
  have hA : HGet h0 h.n (.cells zB 0) := by rw [← hh0]; exact HGet.push (k := BLt.new) (g := HGet.new)
  have hB : HGet h0 b (.cells zB 0) := by rw [← hh0, ← hb]; exact HGet.new
  have hb' : b = h.n + 1 := by rw [← hb]; rfl
  have hn0 : h0.n = h.n + 2 := by rw [← hh0]; rfl
  clear hh0 hb
  haveI := hA
  haveI := hB
  rw [same_self]
  refine stpD ?_
  refine O.callT SameCommit_zero (fun r h1 hr => ?_)
  obtain ⟨rfl, hf1⟩ := hr
  haveI := hf1.keep hA (by omega) id
  haveI := hf1.keep hB (by omega) id
  refine stpD ?_
  refine O.callT SameVals_nil (fun r h2 hr => ?_)
  obtain ⟨rfl, rfl⟩ := hr
  refine stpD ?_
  exact ⟨rfl, hf0.trans' hf1⟩
end Go.Proofs.Ytmhnddkpiefkhaa.A
