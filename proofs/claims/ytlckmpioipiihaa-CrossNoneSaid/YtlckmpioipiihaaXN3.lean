/- CrossNone: the law. -/
import Derived.Test.YtlckmpioipiihaaXN2
import Derived.Test.YtlckmpioipiihaaVK
namespace Go.Proofs.Ytlckmpioipiihaa.A
open Go Go.Vm
set_option maxRecDepth 10000
set_option linter.unusedVariables false
set_option linter.unusedSimpArgs false

theorem SameVotes_nil {h : Heap} : Runs Try.prog T0 (.fn fn_landfallkit_SameVotes) [.slice none 0 0, .slice none 0 0] h (fun r h' => r = .bool true ∧ h' = h) (fun _ _ => False) := by
  refine landfallkit_SameVotes_runs ?_
  refine stpD ?_
  refine landfallkit_SameVotes_l0_rule (fun m v5 v6 h' => v6 = .int .i64 0 ∧ v5 = .bool true ∧ h' = h) ?_ 0 ⟨rfl, rfl, rfl⟩
  rintro m v5 v6 h' x12 x13 x14 x15 x16 x17 x18 x19 x20 x21 x22 x23 x24 x25 x26 x27 x28 x29 ⟨rfl, rfl, rfl⟩
  refine stpD ?_
  exact ⟨rfl, rfl⟩
theorem SameVals_nil {h : Heap} : Runs Try.prog T0 (.fn fn_landfallkit_SameVals) [.slice none 0 0, .slice none 0 0] h (fun r h' => r = .bool true ∧ h' = h) (fun _ _ => False) := by
  refine landfallkit_SameVals_runs ?_
  refine stpD ?_
  refine landfallkit_SameVals_l0_rule (fun m v5 v6 h' => v6 = .int .i64 0 ∧ v5 = .bool true ∧ h' = h) ?_ 0 ⟨rfl, rfl, rfl⟩
  rintro m v5 v6 h' x12 x13 x14 x15 x16 x17 x18 x19 x20 x21 x22 x23 x24 x25 x26 x27 x28 x29 ⟨rfl, rfl, rfl⟩
  refine stpD ?_
  exact ⟨rfl, rfl⟩
theorem SameCommit_zero {h : Heap} :
    Runs Try.prog T0 (.fn fn_landfallkit_SameCommit) [.agg ⟨.int .i64 0 :: (z32 ++ [.slice none 0 0])⟩, .agg ⟨.int .i64 0 :: (z32 ++ [.slice none 0 0])⟩] h (fun r h' => r = .bool true ∧ Fr (fun _ => False) h h') (fun _ _ => False) := by
  refine landfallkit_SameCommit_runs ?_
  refine stpD ?_
  rw [same_self]
  refine stpD ?_
  refine O.callT SameVotes_nil (fun r h1 hr => ?_)
  obtain ⟨rfl, rfl⟩ := hr
  refine stpD ?_
  simp only [eq_self, decide_true, if_true]
  refine stpD ?_
  exact ⟨rfl, Fr.refl.push.push⟩
theorem SameBlock_zero {h : Heap} :
    Runs Try.prog T0 (.fn fn_landfallkit_SameBlock) [.agg ⟨zB⟩, .agg ⟨zB⟩] h (fun r h' => r = .bool true ∧ Fr (fun _ => False) h h') (fun _ _ => False) := by
  refine landfallkit_SameBlock_runs ?_
  refine stpD ?_
  generalize hh0 : (h.push (.cells zB 0)).push (.cells zB 0) = h0
  generalize hb : (h.push (.cells zB 0)).n = b
  have hf0 : Fr (fun _ => False) h h0 := by rw [← hh0]; exact Fr.refl.push.push
  have hA : HGet h0 h.n (.cells zB 0) := by rw [← hh0]; exact HGet.push (k := BLt.new) (g := HGet.new)
  have hB : HGet h0 b (.cells zB 0) := by rw [← hh0, ← hb]; exact HGet.new
  have hb' : b = h.n + 1 := by rw [← hb]; rfl
  have hn0 : h0.n = h.n + 2 := by rw [← hh0]; rfl
  clear hh0 hb
  haveI := hA
  haveI := hB
  rw [same_self]
  refine stpD ?_
  refine O.callT SameCommit_zero (fun r h1 hr => ?_)
  obtain ⟨rfl, hf1⟩ := hr
  haveI := hf1.keep hA (by omega) id
  haveI := hf1.keep hB (by omega) id
  refine stpD ?_
  refine O.callT SameVals_nil (fun r h2 hr => ?_)
  obtain ⟨rfl, rfl⟩ := hr
  refine stpD ?_
  exact ⟨rfl, hf0.trans' hf1⟩
theorem LongBlock_ok {h : Heap} {s : ByteArray} {v1 v2 v7 : Value} {a b : Option Addr} {n c m d : Nat} {L3 L4 L5 L6 L8 : List Value} (h3 : L3.length = 32) (h4 : L4.length = 32) (h5 : L5.length = 32) (h6 : L6.length = 32) (h8 : L8.length = 32) :
    Runs Try.prog T0 (.fn fn_landfallkit_LongBlock) [.agg ⟨.string s :: v1 :: v2 :: (L3 ++ (L4 ++ (L5 ++ (L6 ++ (v7 :: (L8 ++ [.slice a n c, .slice b m d]))))))⟩] h (fun r h' => (∃ x : Bool, r = .bool x) ∧ Fr (fun _ => False) h h') (fun _ _ => False) := by
  haveI : L32 L3 := ⟨h3⟩
  haveI : L32 L4 := ⟨h4⟩
  haveI : L32 L5 := ⟨h5⟩
  haveI : L32 L6 := ⟨h6⟩
  haveI : L32 L8 := ⟨h8⟩
  refine landfallkit_LongBlock_runs ?_
  refine stpD ?_
  refine O.dec (fun _ => ?_) (fun _ => ?_)
  · refine stpD ?_
    exact ⟨⟨_, rfl⟩, Fr.refl.push⟩
  · refine stpD ?_
    refine O.dec (fun _ => ?_) (fun _ => ?_)
    · refine stpD ?_
      exact ⟨⟨_, rfl⟩, Fr.refl.push⟩
    · refine stpD ?_
      exact ⟨⟨_, rfl⟩, Fr.refl.push⟩



theorem cellsAt_of {h : Heap} {b off n es : Nat} {c : List Value} (hg : h.get b = .cells c es) (hn : n ≠ 0) (hle : off + n ≤ c.length) : cellsAt h b off n = some ((c.drop off).take n) := by
  unfold cellsAt
  rw [if_neg hn, hg]
  simp only [AObj.cellsOf]
  rw [if_pos hle]
structure KN (h : Heap) (p r : Nat) (B : List Value) : Prop where
  lt : p + 1 < h.n
  ltr : r < h.n
  c : NoC h (.pointer (some ⟨p, 0, none⟩))
  l : HGet h (p + 1) (.cells [.pointer none, .pointer (some ⟨p, 0, none⟩)] 0)
  b : HGet h r (.cells B 0)
theorem KN.keep {h h' : Heap} {p r : Nat} {B : List Value} (k : KN h p r B) (hf : Fr (fun _ => False) h h') : KN h' p r B :=
  ⟨hf.lt k.lt, hf.lt k.ltr, k.c.keep hf, hf.keep k.l k.lt id, hf.keep k.b k.ltr id⟩

set_option maxHeartbeats 4000000 in
theorem CrossNone_true {h : Heap} {s : ByteArray} {v1 v2 v7 : Value} {a b : Option Addr} {n c mm d : Nat} {L3 L4 L5 L6 L8 : List Value} (h3 : L3.length = 32) (h4 : L4.length = 32) (h5 : L5.length = 32) (h6 : L6.length = 32) (h8 : L8.length = 32) {x : Int} :
    Runs Try.prog T0 (.fn fn_landfalllaw25_CrossNone) [.int .i64 x, .agg ⟨.string s :: v1 :: v2 :: (L3 ++ (L4 ++ (L5 ++ (L6 ++ (v7 :: (L8 ++ [.slice a n c, .slice b mm d]))))))⟩] h (fun r h' => r = .bool true) (fun _ _ => False) := by
  haveI : L32 L3 := ⟨h3⟩
  haveI : L32 L4 := ⟨h4⟩
  haveI : L32 L5 := ⟨h5⟩
  haveI : L32 L6 := ⟨h6⟩
  haveI : L32 L8 := ⟨h8⟩
  refine landfalllaw25_CrossNone_runs ?_
  refine stpD ?_
  refine O.call' (LongBlock_ok h3 h4 h5 h6 h8) (fun r h1 hr => ?_)
  obtain ⟨⟨y, rfl⟩, hf1⟩ := hr
  refine stpD ?_
  refine C.ifB (fun _ => ?_) (fun _ => ?_)
  · refine stpD ?_
    refine O.call' landfalllaw25_awake_known (fun r h1 hr => ?_)
    obtain ⟨rfl, rfl⟩ := hr
    refine stpD ?_
    rfl
  refine stpD ?_
  simp only [Heap.n_push]
  have gb1 := hf1.keep (HGet.new (h := h) (o := .cells (.string s :: v1 :: v2 :: (L3 ++ (L4 ++ (L5 ++ (L6 ++ (v7 :: (L8 ++ [.slice a n c, .slice b mm d]))))))) 0)) (by simp) id
  have hlt1 : h.n < h1.n := Nat.lt_of_lt_of_le (by simp) hf1.n
  refine landfalllaw25_CrossNone_l0_rule (fun m v6 h' => ∃ k : Nat, k ≤ 2 ∧ m = 2 - k ∧ v6 = .int .i64 k ∧ KN h' h1.n h.n (.string s :: v1 :: v2 :: (L3 ++ (L4 ++ (L5 ++ (L6 ++ (v7 :: (L8 ++ [.slice a n c, .slice b mm d])))))))) ?_ 2 ⟨0, by omega, rfl, rfl, ?_⟩
  rotate_left
  · refine ⟨by simp, by simp; omega, .inr ⟨h1.n, by simp; omega, rfl, ?c, ?hg, ?hc⟩, ⟨?_⟩, ⟨?_⟩⟩
    case hg => rw [Heap.get_push, if_neg (by simp), Heap.get_push, if_pos rfl]
    case hc =>
      refine (cellsAt_of (by rw [Heap.get_push, if_neg (by simp), Heap.get_push, if_pos rfl]) (by decide) (of_decide_eq_true ?_)).trans ?_
      · kernel_rfl
      · kernel_rfl
    · rw [Heap.get_push, if_pos (by simp)]
    · rw [Heap.get_push, if_neg (by simp; omega), Heap.get_push, if_neg (by omega), gb1.eq]
  · rintro m v6 h' x4 x7 x8 x9 x10 x17 x18 x19 x20 x21 x22 x23 x24 x25 x26 x27 x28 x29 x30 x31 x32 x33 x34 x35 x36 x37 x38 x39 x40 x41 x42 x43 x44 x45 x46 x47 x48 x49 x50 x51 x52 x53 x54 x55 x56 x57 x58 x59 x60 x61 x62 x63 x64 x65 x66 x67 x68 x69 x70 x71 x72 x73 x74 ⟨k, hk, rfl, rfl, hK⟩
    haveI := hK.l
    haveI := hK.b
    rcases (show k = 0 ∨ k = 1 ∨ k = 2 by omega) with rfl | rfl | rfl
    · refine stpD ?_
      refine O.call' (Evidence_ok (.inl rfl)) (fun r h2 hr => ?_)
      obtain ⟨rfl, hf2⟩ := hr
      have k2 := hK.keep hf2
      haveI : BLt h.n h2 := ⟨k2.ltr⟩
      haveI := k2.l
      haveI := k2.b
      refine stpD ?_
      have k3 := k2.keep (Fr.refl.push (o := .cells zB 0))
      refine O.call' (Say_ok (.inl rfl)) (fun r h4 hr => ?_)
      obtain ⟨rfl, hf4⟩ := hr
      have k4 := k3.keep hf4
      haveI g4 : HGet h4 h2.n (.cells zB 0) := hf4.keep HGet.new (by simp) id
      refine stpD ?_
      try simp only [Int.add_zero, eq_self, decide_true, Bool.not_true, Bool.false_eq_true, if_false, show (decide ((0 : Int) = ((0 : Nat) : Int))) = true from rfl]
      refine stpD ?_
      refine O.callT (Leave_ok (.inl rfl)) (fun r h5 hr => ?_)
      obtain ⟨rfl, rfl⟩ := hr
      refine stpD ?_
      try simp only [Int.add_zero, eq_self, decide_true, Bool.not_true, Bool.false_eq_true, if_false, show (decide ((0 : Int) = ((0 : Nat) : Int))) = true from rfl]
      refine stpD ?_
      refine O.callT (Result_ok (.inl rfl)) (fun r h5 hr => ?_)
      obtain ⟨rfl, rfl⟩ := hr
      refine stpD ?_
      try simp only [Int.add_zero, eq_self, decide_true, Bool.not_true, Bool.false_eq_true, if_false, show (decide ((0 : Int) = ((0 : Nat) : Int))) = true from rfl]
      refine stpD ?_
      refine O.callT (State_ok (.inl rfl)) (fun r h5 hr => ?_)
      obtain ⟨rfl, rfl⟩ := hr
      refine stpD ?_
      try simp only [Int.add_zero, eq_self, decide_true, Bool.not_true, Bool.false_eq_true, if_false, show (decide ((0 : Int) = ((0 : Nat) : Int))) = true from rfl]
      refine stpD ?_
      refine O.callT (All_ok (.inl rfl)) (fun r h5 hr => ?_)
      obtain ⟨rfl, hf5⟩ := hr
      have k5 := k4.keep hf5
      haveI g5 : HGet h5 h2.n (.cells zB 0) := hf5.keep g4 (Nat.lt_of_lt_of_le (by simp) hf4.n) id
      refine stpD ?_
      try simp only [Int.add_zero, eq_self, decide_true, Bool.not_true, Bool.false_eq_true, if_false, show (decide ((0 : Int) = ((0 : Nat) : Int))) = true from rfl]
      refine stpD ?_
      simp only [show ((0 : Nat) : Int) = 0 from rfl, eq_self, decide_true, Bool.not_true, Bool.false_eq_true, if_false]
      refine stpD ?_
      refine O.callT SameBlock_zero (fun r h6 hr => ?_)
      obtain ⟨rfl, hf6⟩ := hr
      have k6 := k5.keep hf6
      refine stpD ?_
      try simp only [Int.add_zero, eq_self, decide_true, Bool.not_true, Bool.false_eq_true, if_false, show (decide ((0 : Int) = ((0 : Nat) : Int))) = true from rfl]
      refine stpD ?_
      exact landfalllaw25_CrossNone_l0_again (2 - (0 + 1)) (by omega) ⟨0 + 1, by omega, rfl, rfl, k6⟩
    · refine stpD ?_
      refine O.call' (Evidence_ok hK.c) (fun r h2 hr => ?_)
      obtain ⟨rfl, hf2⟩ := hr
      have k2 := hK.keep hf2
      haveI : BLt h.n h2 := ⟨k2.ltr⟩
      haveI := k2.l
      haveI := k2.b
      refine stpD ?_
      have k3 := k2.keep (Fr.refl.push (o := .cells zB 0))
      refine O.call' (Say_ok k3.c) (fun r h4 hr => ?_)
      obtain ⟨rfl, hf4⟩ := hr
      have k4 := k3.keep hf4
      haveI g4 : HGet h4 h2.n (.cells zB 0) := hf4.keep HGet.new (by simp) id
      refine stpD ?_
      try simp only [Int.add_zero, eq_self, decide_true, Bool.not_true, Bool.false_eq_true, if_false, show (decide ((0 : Int) = ((0 : Nat) : Int))) = true from rfl]
      refine stpD ?_
      refine O.callT (Leave_ok k4.c) (fun r h5 hr => ?_)
      obtain ⟨rfl, rfl⟩ := hr
      refine stpD ?_
      try simp only [Int.add_zero, eq_self, decide_true, Bool.not_true, Bool.false_eq_true, if_false, show (decide ((0 : Int) = ((0 : Nat) : Int))) = true from rfl]
      refine stpD ?_
      refine O.callT (Result_ok k4.c) (fun r h5 hr => ?_)
      obtain ⟨rfl, rfl⟩ := hr
      refine stpD ?_
      try simp only [Int.add_zero, eq_self, decide_true, Bool.not_true, Bool.false_eq_true, if_false, show (decide ((0 : Int) = ((0 : Nat) : Int))) = true from rfl]
      refine stpD ?_
      refine O.callT (State_ok k4.c) (fun r h5 hr => ?_)
      obtain ⟨rfl, rfl⟩ := hr
      refine stpD ?_
      try simp only [Int.add_zero, eq_self, decide_true, Bool.not_true, Bool.false_eq_true, if_false, show (decide ((0 : Int) = ((0 : Nat) : Int))) = true from rfl]
      refine stpD ?_
      refine O.callT (All_ok k4.c) (fun r h5 hr => ?_)
      obtain ⟨rfl, hf5⟩ := hr
      have k5 := k4.keep hf5
      haveI g5 : HGet h5 h2.n (.cells zB 0) := hf5.keep g4 (Nat.lt_of_lt_of_le (by simp) hf4.n) id
      refine stpD ?_
      try simp only [Int.add_zero, eq_self, decide_true, Bool.not_true, Bool.false_eq_true, if_false, show (decide ((0 : Int) = ((0 : Nat) : Int))) = true from rfl]
      refine stpD ?_
      simp only [show ((0 : Nat) : Int) = 0 from rfl, eq_self, decide_true, Bool.not_true, Bool.false_eq_true, if_false]
      refine stpD ?_
      refine O.callT SameBlock_zero (fun r h6 hr => ?_)
      obtain ⟨rfl, hf6⟩ := hr
      have k6 := k5.keep hf6
      refine stpD ?_
      try simp only [Int.add_zero, eq_self, decide_true, Bool.not_true, Bool.false_eq_true, if_false, show (decide ((0 : Int) = ((0 : Nat) : Int))) = true from rfl]
      refine stpD ?_
      exact landfalllaw25_CrossNone_l0_again (2 - (1 + 1)) (by omega) ⟨1 + 1, by omega, rfl, rfl, k6⟩
    · refine stpD ?_
      refine O.call' landfalllaw25_awake_known (fun r h1 hr => ?_)
      obtain ⟨rfl, rfl⟩ := hr
      refine stpD ?_
      rfl
end Go.Proofs.Ytlckmpioipiihaa.A
