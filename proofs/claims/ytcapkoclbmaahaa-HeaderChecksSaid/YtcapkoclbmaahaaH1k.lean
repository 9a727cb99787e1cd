/- Contracts of the program's headers, 1: names, checks. -/
import Derived.Test.YtcapkoclbmaahaaX4k
import Derived.Test.YtcapkoclbmaahaaVK
namespace Go.Proofs.Ytcapkoclbmaahaa.A
open Go Go.Vm
set_option maxRecDepth 10000
set_option linter.unusedVariables false

def plainP (c : Int) : Prop := (97 ≤ c ∧ c ≤ 122) ∨ (48 ≤ c ∧ c ≤ 57) ∨ c = 45
instance (c : Int) : Decidable (plainP c) := by unfold plainP; infer_instance

theorem plain_ok {h : Heap} {c : Int} : Runs Try.prog T0 (.fn fn_header_plain) [.int .i32 c] h (fun r h' => r = .bool (decide (plainP c)) ∧ h' = h) (fun _ _ => False) := by
  have fin : ∀ {b : Bool}, (b = true ↔ plainP c) → Value.bool b = .bool (decide (plainP c)) := fun {b} hb => by
    congr 1
    by_cases hp : plainP c
    · rw [decide_eq_true hp]; exact hb.2 hp
    · rw [decide_eq_false hp]
      cases b with
      | false => rfl
      | true => exact absurd (hb.1 rfl) hp
  unfold plainP at fin
  refine header_plain_runs ?_
  refine stp ?_
  refine O.dec (fun h1 => ?_) (fun h1 => ?_)
  · refine stp ?_
    refine O.dec (fun h2 => ?_) (fun h2 => ?_)
    · refine stp ?_
      exact ⟨fin (by simp; omega), rfl⟩
    · refine stp ?_
      refine O.dec (fun h3 => ?_) (fun h3 => ?_)
      · refine stp ?_
        refine O.dec (fun h4 => ?_) (fun h4 => ?_)
        · refine stp ?_
          exact ⟨fin (by simp; omega), rfl⟩
        · refine stp ?_
          exact ⟨fin (by simp; omega), rfl⟩
      · refine stp ?_
        exact ⟨fin (by simp; omega), rfl⟩
  · refine stp ?_
    refine O.dec (fun h3 => ?_) (fun h3 => ?_)
    · refine stp ?_
      refine O.dec (fun h4 => ?_) (fun h4 => ?_)
      · refine stp ?_
        exact ⟨fin (by simp; omega), rfl⟩
      · refine stp ?_
        exact ⟨fin (by simp; omega), rfl⟩
    · refine stp ?_
      exact ⟨fin (by simp; omega), rfl⟩

/-- bytes that may stand in a name -/
def plainB (b : UInt8) : Bool := decide (plainP (b.toNat : Nat))

theorem each_ok {h : Heap} {l : List UInt8} : Runs Try.prog T0 (.fn fn_header_each) [.string ⟨⟨l⟩⟩, .func (.func fn_header_plain) ⟨[]⟩ ⟨[]⟩] h (fun r h' => r = .bool (l.all plainB) ∧ Fr (fun _ => False) h h') (fun _ _ => False) := by
  refine header_each_runs ?_
  refine stp ?_
  refine header_each_l0_rule (v := undef) (fun m h' => ∃ pos : Nat, pos ≤ l.length ∧ m = l.length - pos ∧ h' = h.push (.strIter ⟨⟨l⟩⟩ pos) ∧ (l.take pos).all plainB = true) ?_ l.length ⟨0, by omega, rfl, rfl, by simp⟩
  rintro m h' x4 x6 x9 x10 x11 x12 x13 x14 x15 ⟨pos, hpos, rfl, rfl, hall⟩
  refine stp ?_
  by_cases hlt : pos < l.length
  · have hsz : pos < (ByteArray.mk ⟨l⟩).size := hlt
    refine O.how (XOp.mkNextStr hsz) ?_
    refine stp ?_
    refine O.call' plain_ok (fun r h2 hr => ?_)
    obtain ⟨rfl, rfl⟩ := hr
    refine stp ?_
    have hb : (ByteArray.mk ⟨l⟩)[pos] = l[pos] := rfl
    have htake : l.take (pos + 1) = l.take pos ++ [l[pos]] := List.take_succ_eq_append_getElem hlt
    refine C.ifN (fun hp => ?_) (fun hp => ?_)
    · refine stp ?_
      rw [Heap.push_set]
      refine ⟨?_, Fr.refl.push⟩
      have : plainB l[pos] = false := by
        unfold plainB
        by_cases ha : (l[pos]).toNat < 128
        · rw [decode_ascii _ _ hsz (by rw [hb]; exact ha)] at hp
          exact decide_eq_false (by rw [hb] at hp; exact hp)
        · refine decide_eq_false fun h => ?_
          unfold plainP at h
          omega
      congr 1
      refine (List.all_eq_false.2 ⟨l[pos], List.getElem_mem _, by rw [this]; simp⟩).symm
    · have ha : (l[pos]).toNat < 128 := by
        rcases Nat.lt_or_ge (l[pos]).toNat 128 with h | h
        · exact h
        · have := (decode_high _ _ hsz (by rw [hb]; exact h)).1
          unfold plainP at hp
          omega
      rw [decode_ascii _ _ hsz (by rw [hb]; exact ha)] at hp
      rw [decode_ascii _ _ hsz (by rw [hb]; exact ha)]
      refine stp ?_
      rw [Heap.push_set]
      refine header_each_l0_again (v := undef) (l.length - (pos + 1)) (by omega) ⟨pos + 1, by omega, rfl, rfl, ?_⟩
      rw [htake, List.all_append, hall]
      simp only [List.all_cons, List.all_nil, Bool.and_true, Bool.true_and]
      exact decide_eq_true (by rw [hb] at hp; exact hp)
  · obtain rfl : pos = l.length := by omega
    refine O.how (XOp.mkNextEnd (s := ⟨⟨l⟩⟩) (pos := l.length) (by show ¬ l.length < l.length; omega)) ?_
    refine stp ?_
    rw [List.take_length] at hall
    rw [hall]
    exact ⟨rfl, Fr.refl.push⟩

/-- a chain's name -/
def nameS (l : List UInt8) : Bool := decide (1 ≤ l.length) && decide (l.length ≤ 32) && l.all plainB

theorem Name_ok {h : Heap} {l : List UInt8} : Runs Try.prog T0 (.fn fn_header_Name) [.string ⟨⟨l⟩⟩] h (fun r h' => r = .bool (nameS l) ∧ Fr (fun _ => False) h h') (fun _ _ => False) := by
  have hsz : (ByteArray.mk ⟨l⟩).size = l.length := rfl
  refine header_Name_runs ?_
  refine stp ?_
  unfold nameS
  refine O.dec (fun h1 => ?_) (fun h1 => ?_)
  · refine stp ?_
    refine O.dec (fun h2 => ?_) (fun h2 => ?_)
    · refine stp ?_
      refine O.callT each_ok (fun r h' hr => ?_)
      obtain ⟨rfl, hf⟩ := hr
      refine stp ?_
      rw [decide_eq_true (show 1 ≤ l.length by omega), decide_eq_true (show l.length ≤ 32 by omega)]
      exact ⟨rfl, hf⟩
    · refine stp ?_
      rw [decide_eq_false (show ¬ l.length ≤ 32 by omega)]
      exact ⟨by simp, Fr.refl⟩
  · refine stp ?_
    rw [decide_eq_false (show ¬ 1 ≤ l.length by omega)]
    exact ⟨by simp, Fr.refl⟩
end Go.Proofs.Ytcapkoclbmaahaa.A
