/- Contracts of the program's headers, 2: rules, checks, hashes. -/
import Derived.Test.YtcapkoclbmaahaaH1k
import Derived.Test.YtcapkoclbmaahaaVK
namespace Go.Proofs.Ytcapkoclbmaahaa.A
open Go Go.Vm
set_option maxRecDepth 10000
set_option linter.unusedVariables false

/-- a header -/
structure Hd where
  chain : List UInt8
  height : Int
  time : Int
  prev : List UInt8
  vals : List UInt8
  next : List UInt8
  app : List UInt8
structure Hd.ok (x : Hd) : Prop where
  prev : x.prev.length = 32
  vals : x.vals.length = 32
  next : x.next.length = 32
  app : x.app.length = 32
/-- its cells -/
abbrev Hd.cells (x : Hd) : List Value := .string ⟨⟨x.chain⟩⟩ :: .int .i64 x.height :: .int .i64 x.time :: (bcells x.prev ++ (bcells x.vals ++ (bcells x.next ++ bcells x.app)))

theorem rules1_ok {h : Heap} {x : Hd} (hx : x.ok) : Runs Try.prog T0 (.fn fn_header_rules_1) [.agg ⟨x.cells⟩] h (fun r h' => r = .bool (nameS x.chain) ∧ Fr (fun _ => False) h h') (fun _ _ => False) := by
  refine header_rules_1_runs ?_
  refine stpP ?_
  refine O.call' Name_ok (fun r h' hr => ?_)
  obtain ⟨rfl, hf⟩ := hr
  refine stpP ?_
  exact ⟨rfl, Fr.trans (S := fun _ => False) Fr.refl.push hf fun _ _ h => h⟩
theorem rules2_ok {h : Heap} {x : Hd} (hx : x.ok) : Runs Try.prog T0 (.fn fn_header_rules_2) [.agg ⟨x.cells⟩] h (fun r h' => r = .bool (decide (1 ≤ x.height ∧ x.height ≤ 1073741824)) ∧ Fr (fun _ => False) h h') (fun _ _ => False) := by
  refine header_rules_2_runs ?_
  refine stpP ?_
  refine O.dec (fun h1 => ?_) (fun h1 => ?_)
  · refine stpP ?_
    exact ⟨by simp [h1], Fr.refl.push⟩
  · refine stpP ?_
    exact ⟨by simp [h1], Fr.refl.push⟩
theorem rules3_ok {h : Heap} {x : Hd} (hx : x.ok) : Runs Try.prog T0 (.fn fn_header_rules_3) [.agg ⟨x.cells⟩] h (fun r h' => r = .bool (decide (0 ≤ x.time ∧ x.time ≤ 1099511627776)) ∧ Fr (fun _ => False) h h') (fun _ _ => False) := by
  refine header_rules_3_runs ?_
  refine stpP ?_
  refine O.dec (fun h1 => ?_) (fun h1 => ?_)
  · refine stpP ?_
    exact ⟨by simp [h1], Fr.refl.push⟩
  · refine stpP ?_
    exact ⟨by simp [h1], Fr.refl.push⟩

def fnV (f : FuncId) : Value := .func (.func f) ⟨[]⟩ ⟨[]⟩
theorem rules_ok {h : Heap} : Runs Try.prog T0 (.fn fn_header_rules) [] h (fun r h' => r = .slice (some ⟨h.n, 0, none⟩) 3 3 ∧ h' = h.push (.cells [.func (.func fn_header_rules_1) ⟨[]⟩ ⟨[]⟩, .int .i64 5, .func (.func fn_header_rules_2) ⟨[]⟩ ⟨[]⟩, .int .i64 3, .func (.func fn_header_rules_3) ⟨[]⟩ ⟨[]⟩, .int .i64 3] 0)) (fun _ _ => False) := by
  refine header_rules_runs (v := undef) ?_
  refine stpP ?_
  exact ⟨rfl, rfl⟩

/-- why a header may not be -/
def checkS (x : Hd) : Int := if nameS x.chain = false then 5 else if ¬ (1 ≤ x.height ∧ x.height ≤ 1073741824) then 3 else if ¬ (0 ≤ x.time ∧ x.time ≤ 1099511627776) then 3 else 0

theorem Check_ok {h : Heap} {x : Hd} (hx : x.ok) : Runs Try.prog T0 (.fn fn_header_Check) [.agg ⟨x.cells⟩] h (fun r h' => r = .int .i64 (checkS x) ∧ Fr (fun _ => False) h h') (fun _ _ => False) := by
  haveI := l32 hx.prev
  haveI := l32 hx.vals
  haveI := l32 hx.next
  haveI := l32 hx.app
  refine header_Check_runs ?_
  refine stpP ?_
  refine O.call' rules_ok (fun r h1 hr => ?_)
  obtain ⟨rfl, rfl⟩ := hr
  refine stpP ?_
  refine header_Check_l0_rule (fun m v7 h' => ∃ k : Nat, k ≤ 3 ∧ m = 3 - k ∧ v7 = .int .i64 k ∧ Fr (fun _ => False) ((h.push (.cells x.cells 0)).push (.cells [.func (.func fn_header_rules_1) ⟨[]⟩ ⟨[]⟩, .int .i64 5, .func (.func fn_header_rules_2) ⟨[]⟩ ⟨[]⟩, .int .i64 3, .func (.func fn_header_rules_3) ⟨[]⟩ ⟨[]⟩, .int .i64 3] 0)) h' ∧
    (0 < k → nameS x.chain = true) ∧ (1 < k → 1 ≤ x.height ∧ x.height ≤ 1073741824) ∧ (2 < k → 0 ≤ x.time ∧ x.time ≤ 1099511627776)) ?_ 3 ⟨0, by omega, rfl, rfl, Fr.refl, by omega, by omega, by omega⟩
  rintro m v7 h' x2 x4 x8 x9 x10 x11 x12 x13 x14 x15 x16 x17 x18 ⟨k, hk, rfl, rfl, hf, h1, h2, h3⟩
  have hf0 : Fr (fun _ => False) h h' := Fr.trans (S := fun _ => False) Fr.refl.push.push hf fun _ _ h => h
  haveI : HGet h' h.n _ := hf.keep (b := h.n) (HGet.push (k := BLt.new) (g := HGet.new)) (by simp; omega) id
  haveI : HGet h' (h.push (.cells x.cells 0)).n _ := hf.keep (b := (h.push (.cells x.cells 0)).n) HGet.new (by simp) id
  haveI : BLt h.n h' := ⟨by have := hf.n; simp at this; omega⟩
  haveI : BLt (h.push (.cells x.cells 0)).n h' := ⟨by have := hf.n; simp at this ⊢; omega⟩
  have hend : ∀ {o : AObj} {b : Heap}, Fr (fun _ => False) (h'.push o) b → Fr (fun _ => False) h' b := fun hb => Fr.trans (S := fun _ => False) Fr.refl.push hb fun _ _ h => h
  rcases (show k = 0 ∨ k = 1 ∨ k = 2 ∨ k = 3 by omega) with rfl | rfl | rfl | rfl
  · refine stpP ?_
    rw [Nat.zero_mul]
    refine stpP ?_
    refine O.call' (rules1_ok hx) (fun r h2' hr => ?_)
    obtain ⟨rfl, hf2⟩ := hr
    haveI : HGet h2' h'.n _ := hf2.keep (b := h'.n) HGet.new (by simp) id
    refine stpP ?_
    refine C.ifB (fun hb => ?_) (fun hb => ?_)
    · refine stpP ?_
      unfold checkS
      rw [if_pos (by simpa using hb)]
      exact ⟨rfl, hf0.trans' (hend hf2)⟩
    · refine stpP ?_
      exact header_Check_l0_again 2 (by omega) ⟨1, by omega, rfl, rfl, hf.trans' (hend hf2), fun _ => by simpa using hb, by omega, by omega⟩
  · refine stpP ?_
    refine O.call' (rules2_ok hx) (fun r h2' hr => ?_)
    obtain ⟨rfl, hf2⟩ := hr
    haveI : HGet h2' h'.n _ := hf2.keep (b := h'.n) HGet.new (by simp) id
    refine stpP ?_
    refine C.ifN (fun hb => ?_) (fun hb => ?_)
    · refine stpP ?_
      unfold checkS
      rw [if_neg (by rw [h1 (by omega)]; simp), if_pos hb]
      exact ⟨rfl, hf0.trans' (hend hf2)⟩
    · refine stpP ?_
      exact header_Check_l0_again 1 (by omega) ⟨2, by omega, rfl, rfl, hf.trans' (hend hf2), fun _ => h1 (by omega), fun _ => hb, by omega⟩
  · refine stpP ?_
    refine O.call' (rules3_ok hx) (fun r h2' hr => ?_)
    obtain ⟨rfl, hf2⟩ := hr
    haveI : HGet h2' h'.n _ := hf2.keep (b := h'.n) HGet.new (by simp) id
    refine stpP ?_
    refine C.ifN (fun hb => ?_) (fun hb => ?_)
    · refine stpP ?_
      unfold checkS
      rw [if_neg (by rw [h1 (by omega)]; simp), if_neg (fun h => h (h2 (by omega))), if_pos hb]
      exact ⟨rfl, hf0.trans' (hend hf2)⟩
    · refine stpP ?_
      exact header_Check_l0_again 0 (by omega) ⟨3, by omega, rfl, rfl, hf.trans' (hend hf2), fun _ => h1 (by omega), fun _ => h2 (by omega), fun _ => hb⟩
  · refine stpP ?_
    unfold checkS
    rw [if_neg (by rw [h1 (by omega)]; simp), if_neg (fun h => h (h2 (by omega))), if_neg (fun h => h (h3 (by omega)))]
    exact ⟨rfl, hf0⟩

theorem hashes_ok {h : Heap} {x : Hd} {q : Nat} (hq : h.get q = .cells x.cells 0) (hlt : q < h.n) : Runs Try.prog T0 (.fn fn_header_hashes) [.pointer (some ⟨q, 0, none⟩)] h
    (fun r h' => r = .agg ⟨[.pointer (some ⟨q, 3, none⟩), .pointer (some ⟨q, 35, none⟩), .pointer (some ⟨q, 67, none⟩), .pointer (some ⟨q, 99, none⟩)]⟩ ∧ Fr (fun _ => False) h h') (fun _ _ => False) := by
  refine header_hashes_runs ?_
  refine stpP ?_
  exact ⟨rfl, Fr.refl.push⟩
end Go.Proofs.Ytcapkoclbmaahaa.A
