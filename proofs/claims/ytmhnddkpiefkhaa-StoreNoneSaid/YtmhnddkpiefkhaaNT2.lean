/- StoreNone: the law. -/
import Derived.Test.YtmhnddkpiefkhaaNT
import Derived.Test.YtmhnddkpiefkhaaVK
namespace Go.Proofs.Ytmhnddkpiefkhaa.A
open Go Go.Vm
set_option maxRecDepth 10000
set_option linter.unusedVariables false
set_option linter.unusedSimpArgs false

theorem LongBlock_ok {h : Heap} {s : ByteArray} {v1 v2 v7 : Value} {a b : Option Addr} {n c m d : Nat} {L3 L4 L5 L6 L8 : List Value} (h3 : L3.length = 32) (h4 : L4.length = 32) (h5 : L5.length = 32) (h6 : L6.length = 32) (h8 : L8.length = 32) :
    Runs Try.prog T0 (.fn fn_landfallkit_LongBlock) [.agg ⟨.string s :: v1 :: v2 :: (L3 ++ (L4 ++ (L5 ++ (L6 ++ (v7 :: (L8 ++ [.slice a n c, .slice b m d]))))))⟩] h (fun r h' => (∃ x : Bool, r = .bool x) ∧ Fr (fun _ => False) h h') (fun _ _ => False) := by
  haveI : L32 L3 := ⟨h3⟩
  haveI : L32 L4 := ⟨h4⟩
  haveI : L32 L5 := ⟨h5⟩
  haveI : L32 L6 := ⟨h6⟩
  haveI : L32 L8 := ⟨h8⟩
  refine landfallkit_LongBlock_runs ?_
  refine stpD ?_
  refine O.dec (fun _ => ?_) (fun _ => ?_)
  · refine stpD ?_
    exact ⟨⟨_, rfl⟩, Fr.refl.push⟩
  · refine stpD ?_
    refine O.dec (fun _ => ?_) (fun _ => ?_)
    · refine stpD ?_
      exact ⟨⟨_, rfl⟩, Fr.refl.push⟩
    · refine stpD ?_
      exact ⟨⟨_, rfl⟩, Fr.refl.push⟩

set_option maxHeartbeats 4000000 in
theorem StoreNone_true {h : Heap} {s : ByteArray} {v1 v2 v7 : Value} {a b : Option Addr} {n c m d : Nat} {L3 L4 L5 L6 L8 : List Value} (h3 : L3.length = 32) (h4 : L4.length = 32) (h5 : L5.length = 32) (h6 : L6.length = 32) (h8 : L8.length = 32) {x : Int} :
    Runs Try.prog T0 (.fn fn_landfalllaw22_StoreNone) [.agg ⟨.string s :: v1 :: v2 :: (L3 ++ (L4 ++ (L5 ++ (L6 ++ (v7 :: (L8 ++ [.slice a n c, .slice b m d]))))))⟩, .int .i64 x] h (fun r h' => r = .bool true) (fun _ _ => False) := by
  haveI : L32 L3 := ⟨h3⟩
  haveI : L32 L4 := ⟨h4⟩
  haveI : L32 L5 := ⟨h5⟩
  haveI : L32 L6 := ⟨h6⟩
  haveI : L32 L8 := ⟨h8⟩
  refine landfalllaw22_StoreNone_runs ?_
  refine stpD ?_
  refine O.call' (LongBlock_ok h3 h4 h5 h6 h8) (fun r h1 hr => ?_)
  obtain ⟨⟨y, rfl⟩, hf1⟩ := hr
  refine stpD ?_
  refine C.ifB (fun _ => ?_) (fun _ => ?_)
  · refine stpD ?_
    refine O.call' landfalllaw22_awake_known (fun r h1 hr => ?_)
    obtain ⟨rfl, rfl⟩ := hr
    refine stpD ?_
    rfl
  refine stpD ?_
  simp only [Heap.n_push]
  have gb1 := hf1.keep (HGet.new (h := h) (o := .cells (.string s :: v1 :: v2 :: (L3 ++ (L4 ++ (L5 ++ (L6 ++ (v7 :: (L8 ++ [.slice a n c, .slice b m d]))))))) 0)) (by simp) id
  have hlt1 : h.n < h1.n := Nat.lt_of_lt_of_le (by simp) hf1.n
  generalize hh2 : (h1.push (.cells [.int .i64 0, .map none] 0)).push (.cells [.pointer none, .pointer (some ⟨h1.n, 0, none⟩)] 0) = h2
  have g0 : h2.get h1.n = .cells [.int .i64 0, .map none] 0 := by rw [← hh2, Heap.get_push, if_neg (by simp), Heap.get_push, if_pos rfl]
  have g1 : HGet h2 (h1.n + 1) (.cells [.pointer none, .pointer (some ⟨h1.n, 0, none⟩)] 0) := ⟨by rw [← hh2]; exact (HGet.new (h := h1.push _)).eq⟩
  have gb2 : HGet h2 h.n (.cells (.string s :: v1 :: v2 :: (L3 ++ (L4 ++ (L5 ++ (L6 ++ (v7 :: (L8 ++ [.slice a n c, .slice b m d]))))))) 0) := ⟨by rw [← hh2, Heap.get_push, if_neg (by simp; omega), Heap.get_push, if_neg (by omega), gb1.eq]⟩
  have hn2 : h2.n = h1.n + 2 := by rw [← hh2]; rfl
  clear hh2
  refine landfalllaw22_StoreNone_l0_rule (fun m v6 h' => ∃ k : Nat, k ≤ 2 ∧ m = 2 - k ∧ v6 = .int .i64 k ∧ Fr (fun _ => False) h2 h') ?_ 2 ⟨0, by omega, rfl, rfl, Fr.refl⟩
  · rintro m v6 h' x4 x7 x8 x9 x10 x11 x12 x13 x20 x21 x22 x23 x24 x25 x26 x27 x28 x29 x30 x31 x32 x33 x34 x35 x36 x37 x38 x39 x40 x41 x42 x43 x44 x45 x46 x47 x48 x49 x50 x51 x52 x53 x54 x55 x56 x57 x58 x59 x60 x61 x62 x63 x64 x65 x66 x67 x68 x69 x70 x71 x72 x73 x74 x75 x76 x77 x78 x79 x80 x81 x82 x83 x84 x85 x86 x87 x88 x89 x90 x91 x92 x93 x94 x95 x96 x97 ⟨k, hk, rfl, rfl, hF⟩
    haveI := hF.keep g1 (by omega) id
    haveI := hF.keep gb2 (by omega) id
    rcases (show k = 0 ∨ k = 1 ∨ k = 2 by omega) with rfl | rfl | rfl
    · have hw0 : NoS h2 (.pointer none) := .inl rfl
      refine stpD ?_
      refine O.call' (Put_ok (hw0.keep hF)) (fun r h3 hr => ?_)
      obtain ⟨rfl, hf3⟩ := hr
      have hF3 := hF.trans' hf3
      refine stpD ?_
      refine O.call' (Get_ok (hw0.keep hF3)) (fun r h4 hr => ?_)
      obtain ⟨rfl, hf4⟩ := hr
      have hF4 := hF3.trans' hf4
      refine stpD ?_
      refine O.call' (Below_ok (hw0.keep hF4.push)) (fun r h5 hr => ?_)
      obtain ⟨rfl, hf5⟩ := hr
      have hF5 := (hF4.push (o := .cells zB 0)).trans' hf5
      have gx5 : HGet h5 h4.n (.cells zB 0) := hf5.keep HGet.new (by simp) id
      refine stpD ?_
      refine O.call' (Clear_ok (hw0.keep hF5.push)) (fun r h6 hr => ?_)
      have hf6 := hr
      have hF6 := (hF5.push (o := .cells zB 0)).trans' hf6
      have hlt : h4.n < h5.n := Nat.lt_of_lt_of_le (by simp) hf5.n
      haveI gx6 : HGet h6 h4.n (.cells zB 0) := hf6.keep (HGet.push (k := ⟨hlt⟩) (g := gx5)) (by simp; omega) id
      haveI gy6 : HGet h6 h5.n (.cells zB 0) := hf6.keep HGet.new (by simp) id
      refine stpD ?_
      try simp only [Int.add_zero, eq_self, decide_true, Bool.not_true, Bool.false_eq_true, if_false, show (decide ((0 : Int) < ((0 : Nat) : Int))) = false from rfl]
      refine stpD ?_
      refine O.callT SameBlock_zero (fun r h7 hr => ?_)
      obtain ⟨rfl, hf7⟩ := hr
      have hF7 := hF6.trans' hf7
      haveI gy7 := hf7.keep gy6 (Nat.lt_of_lt_of_le (by simp) hf6.n) id
      refine stpD ?_
      try simp only [Int.add_zero, eq_self, decide_true, Bool.not_true, Bool.false_eq_true, if_false, show (decide ((0 : Int) < ((0 : Nat) : Int))) = false from rfl]
      refine stpD ?_
      refine O.callT SameBlock_zero (fun r h8 hr => ?_)
      obtain ⟨rfl, hf8⟩ := hr
      have hF8 := hF7.trans' hf8
      refine stpD ?_
      try simp only [Int.add_zero, eq_self, decide_true, Bool.not_true, Bool.false_eq_true, if_false, show (decide ((0 : Int) < ((0 : Nat) : Int))) = false from rfl]
      refine stpD ?_
      refine O.callT (Pin_ok (hw0.keep hF8)) (fun r h9 hr => ?_)
      obtain ⟨rfl, hf9⟩ := hr
      have hF9 := hF8.trans' hf9
      refine stpD ?_
      try simp only [Int.add_zero, eq_self, decide_true, Bool.not_true, Bool.false_eq_true, if_false, show (decide ((0 : Int) < ((0 : Nat) : Int))) = false from rfl]
      refine stpD ?_
      refine O.callT (Verify_ok (hw0.keep hF9)) (fun r h10 hr => ?_)
      obtain ⟨rfl, rfl⟩ := hr
      refine stpD ?_
      try simp only [Int.add_zero, eq_self, decide_true, Bool.not_true, Bool.false_eq_true, if_false, show (decide ((0 : Int) < ((0 : Nat) : Int))) = false from rfl]
      refine stpD ?_
      refine O.callT (List_ok (hw0.keep hF9)) (fun r h11 hr => ?_)
      obtain ⟨rfl, rfl⟩ := hr
      refine stpD ?_
      try simp only [Int.add_zero, eq_self, decide_true, Bool.not_true, Bool.false_eq_true, if_false, show (decide ((0 : Int) < ((0 : Nat) : Int))) = false from rfl]
      refine stpD ?_
      refine O.callT (Room_ok (hw0.keep hF9)) (fun r h12 hr => ?_)
      obtain ⟨rfl, rfl⟩ := hr
      refine stpD ?_
      try simp only [Int.add_zero, eq_self, decide_true, Bool.not_true, Bool.false_eq_true, if_false, show (decide ((0 : Int) < ((0 : Nat) : Int))) = false from rfl]
      refine stpD ?_
      exact landfalllaw22_StoreNone_l0_again (2 - (0 + 1)) (by omega) ⟨0 + 1, by omega, rfl, rfl, hF9⟩
    · have hw0 : NoS h2 (.pointer (some ⟨h1.n, 0, none⟩)) := .inr ⟨_, by omega, rfl, g0⟩
      refine stpD ?_
      refine O.call' (Put_ok (hw0.keep hF)) (fun r h3 hr => ?_)
      obtain ⟨rfl, hf3⟩ := hr
      have hF3 := hF.trans' hf3
      refine stpD ?_
      refine O.call' (Get_ok (hw0.keep hF3)) (fun r h4 hr => ?_)
      obtain ⟨rfl, hf4⟩ := hr
      have hF4 := hF3.trans' hf4
      refine stpD ?_
      refine O.call' (Below_ok (hw0.keep hF4.push)) (fun r h5 hr => ?_)
      obtain ⟨rfl, hf5⟩ := hr
      have hF5 := (hF4.push (o := .cells zB 0)).trans' hf5
      have gx5 : HGet h5 h4.n (.cells zB 0) := hf5.keep HGet.new (by simp) id
      refine stpD ?_
      refine O.call' (Clear_ok (hw0.keep hF5.push)) (fun r h6 hr => ?_)
      have hf6 := hr
      have hF6 := (hF5.push (o := .cells zB 0)).trans' hf6
      have hlt : h4.n < h5.n := Nat.lt_of_lt_of_le (by simp) hf5.n
      haveI gx6 : HGet h6 h4.n (.cells zB 0) := hf6.keep (HGet.push (k := ⟨hlt⟩) (g := gx5)) (by simp; omega) id
      haveI gy6 : HGet h6 h5.n (.cells zB 0) := hf6.keep HGet.new (by simp) id
      refine stpD ?_
      try simp only [Int.add_zero, eq_self, decide_true, Bool.not_true, Bool.false_eq_true, if_false, show (decide ((0 : Int) < ((0 : Nat) : Int))) = false from rfl]
      refine stpD ?_
      refine O.callT SameBlock_zero (fun r h7 hr => ?_)
      obtain ⟨rfl, hf7⟩ := hr
      have hF7 := hF6.trans' hf7
      haveI gy7 := hf7.keep gy6 (Nat.lt_of_lt_of_le (by simp) hf6.n) id
      refine stpD ?_
      try simp only [Int.add_zero, eq_self, decide_true, Bool.not_true, Bool.false_eq_true, if_false, show (decide ((0 : Int) < ((0 : Nat) : Int))) = false from rfl]
      refine stpD ?_
      refine O.callT SameBlock_zero (fun r h8 hr => ?_)
      obtain ⟨rfl, hf8⟩ := hr
      have hF8 := hF7.trans' hf8
      refine stpD ?_
      try simp only [Int.add_zero, eq_self, decide_true, Bool.not_true, Bool.false_eq_true, if_false, show (decide ((0 : Int) < ((0 : Nat) : Int))) = false from rfl]
      refine stpD ?_
      refine O.callT (Pin_ok (hw0.keep hF8)) (fun r h9 hr => ?_)
      obtain ⟨rfl, hf9⟩ := hr
      have hF9 := hF8.trans' hf9
      refine stpD ?_
      try simp only [Int.add_zero, eq_self, decide_true, Bool.not_true, Bool.false_eq_true, if_false, show (decide ((0 : Int) < ((0 : Nat) : Int))) = false from rfl]
      refine stpD ?_
      refine O.callT (Verify_ok (hw0.keep hF9)) (fun r h10 hr => ?_)
      obtain ⟨rfl, rfl⟩ := hr
      refine stpD ?_
      try simp only [Int.add_zero, eq_self, decide_true, Bool.not_true, Bool.false_eq_true, if_false, show (decide ((0 : Int) < ((0 : Nat) : Int))) = false from rfl]
      refine stpD ?_
      refine O.callT (List_ok (hw0.keep hF9)) (fun r h11 hr => ?_)
      obtain ⟨rfl, rfl⟩ := hr
      refine stpD ?_
      try simp only [Int.add_zero, eq_self, decide_true, Bool.not_true, Bool.false_eq_true, if_false, show (decide ((0 : Int) < ((0 : Nat) : Int))) = false from rfl]
      refine stpD ?_
      refine O.callT (Room_ok (hw0.keep hF9)) (fun r h12 hr => ?_)
      obtain ⟨rfl, rfl⟩ := hr
      refine stpD ?_
      try simp only [Int.add_zero, eq_self, decide_true, Bool.not_true, Bool.false_eq_true, if_false, show (decide ((0 : Int) < ((0 : Nat) : Int))) = false from rfl]
      refine stpD ?_
      exact landfalllaw22_StoreNone_l0_again (2 - (1 + 1)) (by omega) ⟨1 + 1, by omega, rfl, rfl, hF9⟩
    · refine stpD ?_
      refine O.call' landfalllaw22_awake_known (fun r h1 hr => ?_)
      obtain ⟨rfl, rfl⟩ := hr
      refine stpD ?_
      rfl
end Go.Proofs.Ytmhnddkpiefkhaa.A
